/- M: FnPages holds: pages and ranges of a directory's keys. -/
import Derived.Test.YtegeiflafmpefaaMDirP
import Derived.Test.YtegeiflafmpefaaMCur
import Derived.Test.YtegeiflafmpefaaMPagesP
set_option linter.unusedVariables false
set_option linter.unusedSimpArgs false
namespace Go.Proofs.Ytegeiflafmpefaa.G
open Go.V
/- Draws. -/
theorem pgKeyD_ok (k : Nat) {c : CurD} (h : CI c) : ∃ (c' : CurD) (x : ByteArray), spec_l5Key.f k c = some (c', (x, ())) ∧ CI c' := by
  unfold spec_l5Key.f spec_l5Key.t
  obtain ⟨c', x, e, hc⟩ := l1Pick_ok k h (l := [(⟨#[97]⟩ : ByteArray), (⟨#[98]⟩ : ByteArray), (⟨#[99]⟩ : ByteArray), (⟨#[107, 101, 121]⟩ : ByteArray), (⟨#[108, 111, 110, 103, 110, 97, 109, 101]⟩ : ByteArray)]) (by decide) (by decide)
  rw [e, Option.bind_some]
  exact ⟨_, _, rfl, hc⟩
theorem l1PickInt_ok (k : Nat) {c : CurD} (h : CI c) {l : List Int} (h0 : 0 < l.length) (h1 : l.length ≤ 256) : ∃ (c' : CurD) (x : Int), spec_l1PickInt.f k c l = some (c', (x, ())) ∧ CI c' := by
  obtain ⟨c', x, e, hc, hx0, hx1⟩ := l1Below_ok k h (n := (l.length : Int)) (by omega) (by omega)
  unfold spec_l1PickInt.f spec_l1PickInt.t
  rw [e, Option.bind_some]
  simp only []
  rw [inb_eq hx0 hx1]
  exact ⟨_, _, rfl, hc⟩
theorem l8Entry_ok (k : Nat) {c : CurD} (h : CI c) : ∃ (c' : CurD) (x : Ty.den TEntry), spec_l8Entry.f k c = some (c', (x, ())) ∧ CI c' := by
  unfold spec_l8Entry.f spec_l8Entry.t
  obtain ⟨c1, x1, e1, h1⟩ := pgKeyD_ok k h
  obtain ⟨c2, x2, e2, h2, _, _⟩ := l1Below_ok k h1 (n := 4) (by omega) (by omega)
  obtain ⟨c3, x3, e3, h3, _, _⟩ := l1Below_ok k h2 (n := 90) (by omega) (by omega)
  obtain ⟨c4, x4, e4, h4, _, _⟩ := l1Below_ok k h3 (n := 30) (by omega) (by omega)
  obtain ⟨c5, x5, e5, h5, _, _⟩ := l1Below_ok k h4 (n := 9) (by omega) (by omega)
  rw [e1, Option.bind_some]
  simp only []
  rw [e2, Option.bind_some]
  simp only []
  rw [e3, Option.bind_some]
  simp only []
  rw [e4, Option.bind_some]
  simp only []
  rw [e5, Option.bind_some]
  exact ⟨_, _, rfl, h5⟩
def GoodE (o : Option (CurD × EntryL × Unit)) : Prop := ∃ (c : CurD) (l : EntryL), o = some (c, (l, ())) ∧ CI c ∧ l.length ≤ 100
theorem l8DirL {k : Nat} (hk : 2 ^ 50 ≤ k) : ∀ (d n : Nat) (c : CurD) (l : EntryL), d < n → CI c → l.length + d ≤ 100 → GoodE (spec_l8Dir.l0 k n (d : Int) c.1 c.2.1 c.2.2.1 l) := by
  intro d
  induction d with
  | zero =>
    intro n c l hn hc hl
    obtain ⟨n, rfl⟩ : ∃ q, n = q + 1 := ⟨n - 1, by omega⟩
    simp only [spec_l8Dir.l0, spec_l8Dir.b0]
    rw [decF (show ¬ ((0 : Nat) : Int) > 0 by omega), cond_false]
    by_cases c0 : (l.length : Int) > 0
    case neg => rw [decF c0]; exact ⟨c, l, rfl, hc, by omega⟩
    rw [decT c0, cond_true]
    obtain ⟨c1, x1, e1, h1⟩ := l1Once_ok k hc (n := 8) (by omega) (by omega)
    have e1' : spec_l1Once.f k (c.1, (c.2.1, (c.2.2.1, ()))) 8 = some (c1, (x1, ())) := e1
    rw [e1', Option.bind_some]
    cases x1 with
    | false => exact ⟨c1, l, rfl, h1, by omega⟩
    | true =>
      simp only [cond_true]
      obtain ⟨c2, x2, e2, h2, h20, h21⟩ := l1Below_ok k h1 (n := (l.length : Int)) (by omega) (by omega)
      rw [e2, Option.bind_some]
      simp only []
      obtain ⟨c3, x3, e3, h3, _, _⟩ := l1Below_ok k h2 (n := 4) (by omega) (by omega)
      rw [e3, Option.bind_some]
      simp only []
      have hset : ∀ (c' : CurD) (z : Ty.den TEntry), CI c' → GoodE (some (c', (l.set x2.toNat z, ()))) := fun c' z hc' => ⟨c', _, rfl, hc', by rw [List.length_set]; omega⟩
      cases x3 == 0 with
      | true =>
        rw [cond_true]
        obtain ⟨c4, x4, e4, h4⟩ := l1Pick_ok k h3 (l := [(⟨#[]⟩ : ByteArray), (⟨#[122, 122, 122, 122, 122, 122, 122, 122, 122]⟩ : ByteArray), (⟨#[97]⟩ : ByteArray)]) (by decide) (by decide)
        rw [e4, Option.bind_some, inb_eq h20 h21]
        exact hset _ _ h4
      | false =>
        rw [cond_false]
        cases x3 == 1 with
        | true =>
          rw [cond_true, inb_eq h20 h21]
          exact hset _ _ h3
        | false =>
          rw [cond_false]
          cases x3 == 2 with
          | true =>
            rw [cond_true]
            obtain ⟨c4, x4, e4, h4⟩ := l1PickInt_ok k h3 (l := [0, 210, 211]) (by decide) (by decide)
            rw [e4, Option.bind_some, inb_eq h20 h21]
            exact hset _ _ h4
          | false =>
            rw [cond_false]
            obtain ⟨c4, x4, e4, h4⟩ := l1PickInt_ok k h3 (l := [0, 1000001]) (by decide) (by decide)
            rw [e4, Option.bind_some, inb_eq h20 h21]
            exact hset _ _ h4
  | succ d ih =>
    intro n c l hn hc hl
    obtain ⟨n, rfl⟩ : ∃ q, n = q + 1 := ⟨n - 1, by omega⟩
    obtain ⟨c1, x1, e1, h1⟩ := l8Entry_ok k hc
    have e1' : spec_l8Entry.f k (c.1, (c.2.1, (c.2.2.1, ()))) = some (c1, (x1, ())) := e1
    have hp := putM_len l x1
    have hw : w64 (((d + 1 : Nat) : Int) - 1) = (d : Int) := by rw [w64_eq (by omega) (by omega)]; omega
    simp only [spec_l8Dir.l0, spec_l8Dir.b0]
    rw [decT (show ((d + 1 : Nat) : Int) > 0 by omega), cond_true, e1', Option.bind_some]
    simp only []
    rw [specDirPut_eq hk _ (by omega), Option.bind_some, hw]
    exact ih n c1 (putM l x1) (by omega) h1 (by omega)
theorem drawRange_ok {k : Nat} (hk : 2 ^ 50 ≤ k) {code : List Int} (hl : code.length ≤ 1048576) : ∃ (l : EntryL) (a b : ByteArray), spec_DrawRangeOf.f k code = some (l, (a, (b, ()))) ∧ l.length ≤ 100 := by
  obtain ⟨c, e, hc⟩ := l1New_ok hk hl
  unfold spec_DrawRangeOf.f spec_DrawRangeOf.t
  rw [e, Option.bind_some]
  simp only []
  have hd : GoodE (spec_l8Dir.f k c) := by
    unfold spec_l8Dir.f spec_l8Dir.t
    obtain ⟨c1, x1, e1, h1, h10, h11⟩ := l1Below_ok k hc (n := 7) (by omega) (by omega)
    rw [e1, Option.bind_some]
    have := l8DirL hk x1.toNat k c1 [] (by omega) h1 (by simp; omega)
    rw [show ((x1.toNat : Nat) : Int) = x1 by omega] at this
    exact this
  obtain ⟨c2, l, e2, h2, h3⟩ := hd
  rw [e2, Option.bind_some]
  simp only []
  obtain ⟨c3, a, e3, h4⟩ := l1Pick_ok k h2 (l := [(⟨#[]⟩ : ByteArray), (⟨#[97]⟩ : ByteArray), (⟨#[98]⟩ : ByteArray)]) (by decide) (by decide)
  rw [e3, Option.bind_some]
  simp only []
  obtain ⟨c4, b, e4, _⟩ := l1Pick_ok k h4 (l := [(⟨#[]⟩ : ByteArray), (⟨#[98]⟩ : ByteArray), (⟨#[99]⟩ : ByteArray), (⟨#[107, 101, 121]⟩ : ByteArray), (⟨#[122]⟩ : ByteArray)]) (by decide) (by decide)
  rw [e4, Option.bind_some]
  exact ⟨_, _, _, rfl, h3⟩
/- Directories. -/
theorem pgIn_eq (k : Nat) (a b c : Int) : spec_l1In.f k a b c = some (decide (b ≤ a ∧ a ≤ c), ()) := by
  unfold spec_l1In.f spec_l1In.t
  by_cases h : a ≥ b
  · rw [decT h, cond_true, decide_eq_decide.2 (show (b ≤ a ∧ a ≤ c) ↔ a ≤ c from ⟨fun q => q.2, fun q => ⟨h, q⟩⟩)]
  · rw [decF h, cond_false, decF (fun q => h q.1)]
theorem pgKey_eq (k : Nat) (s : ByteArray) : spec_KeyOk.f k s = some (decide (1 ≤ (s.size : Int) ∧ (s.size : Int) ≤ 8), ()) := by
  unfold spec_KeyOk.f spec_KeyOk.t
  rw [pgIn_eq, Option.bind_some]
def entP (p : Option (Ty.den TEntry)) (x : Ty.den TEntry) : Bool :=
  decide (1 ≤ (x.1.size : Int) ∧ (x.1.size : Int) ≤ 8) && (decide ((1 : Int) ≤ x.2.1 ∧ x.2.1 ≤ 100000) && (!decide (x.2.2.1 < (0 : Int)) && (decide ((1 : Int) ≤ x.2.2.2.1 ∧ x.2.2.2.1 ≤ 210) && (decide ((1 : Int) ≤ x.2.2.2.2.1 ∧ x.2.2.2.2.1 ≤ 1000000) && (match p with | none => true | some y => sls y.1 x.1)))))
def dirP (l : EntryL) : Bool := decide ((l.length : Int) ≤ 20) && adj entP none l
theorem pgDir_eq {k : Nat} (hk : 2 ^ 50 ≤ k) (l : EntryL) : spec_DirOk.f k l = some (dirP l, ()) := by
  unfold spec_DirOk.f spec_DirOk.t dirP
  by_cases c : l.length > 20
  · rw [decT (by omega), cond_true, decF (by omega), Bool.false_and]
  · rw [decF (by omega), cond_false, decT (by omega), Bool.true_and]
    refine (forAdj (L := fun n i => spec_DirOk.l0 k n l i) (Ty.dflt TEntry) l entP (some (true, ())) (some (false, ())) (fun n => ?_) (fun n x h hx => ?_) (fun n i x y h0 h1 hx hy => ?_) (n := k) (by omega)).trans (by cases adj entP none l <;> rfl)
    · simp (disch := omega) only [spec_DirOk.l0, spec_DirOk.b0, decF, cond_false]
    · simp (disch := omega) only [spec_DirOk.l0, spec_DirOk.b0, decT (show (0 : Int) < (l.length : Int) by omega), cond_true, inb_eq, hx, pgKey_eq k, pgIn_eq k, Option.bind_some, decF (show ¬ (0 : Int) > 0 by omega), cond_false, w64_eq, entP]
      cases decide (1 ≤ (x.1.size : Int) ∧ (x.1.size : Int) ≤ 8) <;> cases decide ((1 : Int) ≤ x.2.1 ∧ x.2.1 ≤ 100000) <;> cases decide (x.2.2.1 < (0 : Int)) <;> cases decide ((1 : Int) ≤ x.2.2.2.1 ∧ x.2.2.2.1 ≤ 210) <;> cases decide ((1 : Int) ≤ x.2.2.2.2.1 ∧ x.2.2.2.2.1 ≤ 1000000) <;> rfl
    · simp (disch := omega) only [spec_DirOk.l0, spec_DirOk.b0, decT h1, cond_true, inb_eq, hx, hy, pgKey_eq k, pgIn_eq k, Option.bind_some, decT (show i > 0 by omega), cond_false, w64_eq, entP, sls_total]
      cases decide (1 ≤ (x.1.size : Int) ∧ (x.1.size : Int) ≤ 8) <;> cases decide ((1 : Int) ≤ x.2.1 ∧ x.2.1 ≤ 100000) <;> cases decide (x.2.2.1 < (0 : Int)) <;> cases decide ((1 : Int) ≤ x.2.2.2.1 ∧ x.2.2.2.1 ≤ 210) <;> cases decide ((1 : Int) ≤ x.2.2.2.2.1 ∧ x.2.2.2.2.1 ≤ 1000000) <;> cases sls y.1 x.1 <;> rfl
def keysE (l : EntryL) : List ByteArray := l.map (·.1)
theorem entP_size {p : Option (Ty.den TEntry)} {x : Ty.den TEntry} (h : entP p x = true) : 0 < x.1.size := by
  unfold entP at h
  rw [Bool.and_eq_true, decide_eq_true_eq] at h
  omega
theorem entP_less {y x : Ty.den TEntry} (h : entP (some y) x = true) : sls y.1 x.1 = true := by
  unfold entP at h
  simp only [Bool.and_eq_true] at h
  exact h.2.2.2.2.2
theorem adj_keys : ∀ (l : EntryL) (x : Ty.den TEntry), adj entP (some x) l = true → KeysOk (keysE l) ∧ (∀ y ∈ keysE l, sls x.1 y = true) ∧ ∀ y ∈ keysE l, 0 < y.size
  | [], x, _ => ⟨List.Pairwise.nil, fun y h => (by cases h), fun y h => (by cases h)⟩
  | z :: l, x, h => by
    rw [adj, Bool.and_eq_true] at h
    obtain ⟨h1, h2, h3⟩ := adj_keys l z h.2
    have hz := entP_less h.1
    refine ⟨List.Pairwise.cons h2 h1, fun y hy => ?_, fun y hy => ?_⟩
    · rcases List.mem_cons.1 hy with q | q
      · rw [q]; exact hz
      · exact sls_trans hz (h2 y q)
    · rcases List.mem_cons.1 hy with q | q
      · rw [q]; exact entP_size h.1
      · exact h3 y q
theorem dir_keys {l : EntryL} (h : dirP l = true) : KeysOk (keysE l) ∧ ∀ y ∈ keysE l, 0 < y.size := by
  unfold dirP at h
  rw [Bool.and_eq_true] at h
  cases l with
  | nil => exact ⟨List.Pairwise.nil, fun y h => (by cases h)⟩
  | cons x l =>
    have h2 := h.2
    rw [adj, Bool.and_eq_true] at h2
    obtain ⟨a, b, c⟩ := adj_keys l x h2.2
    refine ⟨List.Pairwise.cons b a, fun y hy => ?_⟩
    rcases List.mem_cons.1 hy with q | q
    · rw [q]; exact entP_size h2.1
    · exact c y q
theorem snocK (l : List ByteArray) (x : ByteArray) : (l ++ [x]).length = l.length + 1 := by simp
theorem pgKeys_eq {k : Nat} (hk : 2 ^ 50 ≤ k) {l : EntryL} (hl : l.length ≤ 1000) : spec_DirKeys.f k l = some (keysE l, ()) := by
  unfold spec_DirKeys.f spec_DirKeys.t
  refine forL0 (L := fun n i s => spec_DirKeys.l0 k n l i s) (R := fun r s => some (s ++ keysE r, ())) (Ty.dflt TEntry) l (fun i s => (s.length : Int) = i) (fun n s hs => ?_) (fun n i s x rest h0 h1 hx hr hp ih => ?_) (n := k) (s := []) (by omega) rfl
  · simp (disch := omega) only [spec_DirKeys.l0, spec_DirKeys.b0, decF, cond_false]
    rw [show keysE [] = [] from rfl, List.append_nil]
  · have ih := ih (s ++ [x.1]) (by rw [snocK]; omega)
    simp (disch := first | omega | decide) only [spec_DirKeys.l0, spec_DirKeys.b0, decT h1, cond_true, inb_eq, hx, rm_ok, w64_eq, ih]
    rw [List.append_assoc]
    rfl
theorem pgRange_eq {k : Nat} (hk : 2 ^ 50 ≤ k) {l : EntryL} (hl : l.length ≤ 1000) (a b : ByteArray) : impl_RangeOf.f k l a b = some (rangeK a b (keysE l), ()) := by
  unfold impl_RangeOf.f impl_RangeOf.t
  refine forL0 (L := fun n i s => impl_RangeOf.l0 k n a b l l.length i s) (R := fun r s => some (s ++ rangeK a b (keysE r), ())) (Ty.dflt TEntry) l (fun i s => (s.length : Int) ≤ i) (fun n s hs => ?_) (fun n i s x rest h0 h1 hx hr hp ih => ?_) (n := k) (s := []) (by omega) (by simp)
  · simp (disch := omega) only [impl_RangeOf.l0, impl_RangeOf.b0, decF, cond_false]
    rw [show rangeK a b (keysE []) = [] from rfl, List.append_nil]
  · have iY := ih (s ++ [x.1]) (by rw [snocK]; omega)
    have iN := ih s (by omega)
    simp (disch := first | omega | decide) only [impl_RangeOf.l0, impl_RangeOf.b0, decT h1, cond_true, inb_eq, hx, rm_ok, w64_eq, iY, iN]
    have e : rangeK a b (keysE (x :: rest)) = (x.1 :: keysE rest).filter (inR a b) := rfl
    rw [e]
    cases c : inR a b x.1 with
    | true =>
      rw [List.filter_cons_of_pos c, List.append_assoc]
      unfold inR at c
      revert c
      cases sls x.1 a <;> cases seq b ⟨#[]⟩ <;> cases sls x.1 b <;> intro c <;> first | rfl | cases c
    | false =>
      rw [List.filter_cons_of_neg (by rw [c]; decide)]
      unfold inR at c
      revert c
      cases sls x.1 a <;> cases seq b ⟨#[]⟩ <;> cases sls x.1 b <;> intro c <;> first | rfl | cases c
def pgStep (after : ByteArray) (m : Int) (s : List ByteArray × ByteArray) (x : ByteArray) : List ByteArray × ByteArray := bif sls after x then (bif decide ((s.1.length : Int) < m) then (s.1 ++ [x], x) else s) else s
theorem pgStep_len (after : ByteArray) (m : Int) (s : List ByteArray × ByteArray) (x : ByteArray) : (pgStep after m s x).1.length ≤ s.1.length + 1 := by
  unfold pgStep
  cases sls after x <;> cases decide ((s.1.length : Int) < m) <;> simp
theorem pgFold {after : ByteArray} {n : Nat} : ∀ (K out : List ByteArray) (nx : ByteArray), K.foldl (pgStep after (n : Int)) (out, nx) = (out ++ (gtK after K).take (n - out.length), ((gtK after K).take (n - out.length)).getLastD nx)
  | [], out, nx => by
    unfold gtK
    simp
  | x :: K, out, nx => by
    rw [List.foldl_cons]
    unfold pgStep
    cases c : sls after x with
    | false =>
      have e : gtK after (x :: K) = gtK after K := List.filter_cons_of_neg (by rw [c]; decide)
      rw [e]
      exact pgFold K out nx
    | true =>
      have e : gtK after (x :: K) = x :: gtK after K := List.filter_cons_of_pos c
      rw [e]
      by_cases q : out.length < n
      · rw [decT (show (out.length : Int) < (n : Int) by omega)]
        have := pgFold (after := after) (n := n) K (out ++ [x]) x
        rw [snocK] at this
        refine this.trans ?_
        rw [show n - out.length = (n - (out.length + 1)) + 1 by omega, List.take_succ_cons, List.getLastD_cons, List.append_assoc]
        rfl
      · rw [decF (show ¬ (out.length : Int) < (n : Int) by omega)]
        have := pgFold (after := after) (n := n) K out nx
        refine this.trans ?_
        rw [show n - out.length = 0 by omega, List.take_zero, List.take_zero]
theorem pgPage_eq {k : Nat} (hk : 2 ^ 50 ≤ k) {l : EntryL} (hl : l.length ≤ 1000) (after : ByteArray) (n : Nat) : impl_Page.f k l after (n : Int) = some ((gtK after (keysE l)).take n, (((gtK after (keysE l)).take n).getLastD ⟨#[]⟩, ())) := by
  have e := pgFold (after := after) (n := n) (keysE l) [] ⟨#[]⟩
  rw [List.length_nil, Nat.sub_zero, List.nil_append] at e
  unfold impl_Page.f impl_Page.t
  refine (forL0 (L := fun m i (s : List ByteArray × ByteArray) => impl_Page.l0 k m after (n : Int) s.2 l l.length i s.1) (R := fun r s => some (((keysE r).foldl (pgStep after (n : Int)) s).1, (((keysE r).foldl (pgStep after (n : Int)) s).2, ()))) (Ty.dflt TEntry) l (fun i s => (s.1.length : Int) ≤ i) (fun m s hs => ?_) (fun m i s x rest h0 h1 hx hr hp ih => ?_) (n := k) (s := ([], ⟨#[]⟩)) (by omega) (by simp)).trans (by rw [e])
  · simp (disch := omega) only [impl_Page.l0, impl_Page.b0, decF, cond_false]
    rfl
  · have hle := pgStep_len after (n : Int) s x.1
    have ih := ih (pgStep after (n : Int) s x.1) (by omega)
    have e2 : (keysE (x :: rest)).foldl (pgStep after (n : Int)) s = (keysE rest).foldl (pgStep after (n : Int)) (pgStep after (n : Int) s x.1) := rfl
    rw [e2, ← ih]
    simp (disch := first | omega | decide) only [impl_Page.l0, impl_Page.b0, decT h1, cond_true, inb_eq, hx, rm_ok, w64_eq, sls_total, Bool.not_not]
    unfold pgStep
    cases sls after x.1 <;> cases decide ((s.1.length : Int) < (n : Int)) <;> rfl
theorem pgPages_eq {k : Nat} (hk : 2 ^ 50 ≤ k) {l : EntryL} (hl : l.length ≤ 1000) {n : Nat} (hn : 1 ≤ n) (hK : KeysOk (keysE l)) :
    ∀ (f m : Nat) (A B : List ByteArray) (after : ByteArray) (out : List ByteArray), keysE l = A ++ B → gtK after (keysE l) = B → B.length < f → f ≤ m → out.length + B.length ≤ 2000 → impl_Pages.l0 k m l (n : Int) after out = some (out ++ B, ()) := by
  intro f
  induction f with
  | zero => intro m A B after out _ _ h; omega
  | succ f ih =>
    intro m A B after out hA hg hf hm ho
    obtain ⟨m, rfl⟩ : ∃ q, m = q + 1 := ⟨m - 1, by omega⟩
    simp only [impl_Pages.l0, impl_Pages.b0]
    rw [decT (show (n : Int) > 0 by omega), cond_true, pgPage_eq hk hl, Option.bind_some, hg]
    simp only []
    have hB : B = B.take n ++ B.drop n := (List.take_append_drop n B).symm
    cases h : B.take n with
    | nil =>
      rcases List.take_eq_nil_iff.1 h with q | q
      · omega
      · rw [q, List.append_nil]
        rfl
    | cons y r =>
      rw [h] at hB
      have hlen := congrArg List.length hB
      rw [List.length_append, List.length_cons] at hlen
      rw [show (((y :: r).length : Int) == 0) = false from beq_eq_false_iff_ne.2 (by rw [List.length_cons]; omega), cond_false, rm_ok (by rw [List.length_cons]; omega) (by decide)]
      have hlast : (y :: r) = (y :: r).dropLast ++ [(y :: r).getLast (by simp)] := (List.dropLast_concat_getLast (by simp)).symm
      have hgl : (y :: r).getLastD ⟨#[]⟩ = (y :: r).getLast (by simp) := by rw [List.getLastD_eq_getLast?, List.getLast?_eq_some_getLast (by simp)]; rfl
      rw [hgl]
      generalize hz : (y :: r).getLast (by simp) = z at hlast
      have hK2 : keysE l = (A ++ (y :: r).dropLast) ++ [z] ++ B.drop n := by
        rw [hA]
        conv => lhs; rw [hB, hlast]
        simp only [List.append_assoc]
      have hg2 : gtK z (keysE l) = B.drop n := by
        have := gt_split (A := A ++ (y :: r).dropLast) (B := B.drop n) (x := z) (by rw [← hK2]; exact hK)
        rw [← hK2] at this
        exact this
      rw [ih m ((A ++ (y :: r).dropLast) ++ [z]) (B.drop n) z (out ++ (y :: r)) hK2 hg2 (by omega) (by omega) (by rw [List.length_append, List.length_cons]; omega)]
      rw [List.append_assoc, ← hB]
theorem pgPagesAll {k : Nat} (hk : 2 ^ 50 ≤ k) {l : EntryL} (hl : l.length ≤ 1000) {n : Nat} (hn : 1 ≤ n) (hK : KeysOk (keysE l)) (h0 : ∀ y ∈ keysE l, 0 < y.size) : impl_Pages.f k l (n : Int) = some (keysE l, ()) := by
  unfold impl_Pages.f impl_Pages.t
  have hle : (keysE l).length = l.length := List.length_map ..
  have := pgPages_eq hk hl hn hK ((keysE l).length + 1) k [] (keysE l) ⟨#[]⟩ [] rfl (gt_none h0) (by omega) (by omega) (by simp; omega)
  exact this
theorem same_self {k : Nat} (hk : 2 ^ 50 ≤ k) {l : List ByteArray} (hl : l.length ≤ 1000) : laws_sameTexts.f k l l = some (true, ()) := by
  unfold laws_sameTexts.f laws_sameTexts.t
  rw [show ((l.length : Int) != (l.length : Int)) = false by simp, cond_false]
  refine forL0 (L := fun n i (_ : Unit) => laws_sameTexts.l0 k n l l i) (R := fun r _ => some (true, ())) (Ty.dflt .str) l (fun _ _ => True) (fun n _ _ => ?_) (fun n i _ y rest h0 h1 hx hr hp ih => ?_) (n := k) (s := ()) (by omega) trivial
  · simp (disch := omega) only [laws_sameTexts.l0, laws_sameTexts.b0, decF, cond_false]
  · have ih := ih () trivial
    simp (disch := omega) only [laws_sameTexts.l0, laws_sameTexts.b0, decT h1, cond_true, inb_eq, hx, w64_eq, ih, seq_refl]
    rfl
theorem pgGet_ok {k : Nat} (hk : 2 ^ 50 ≤ k) {l : EntryL} (hl : l.length ≤ 1000) {s : ByteArray} (hs : s ∈ keysE l) : ∃ e, spec_DirGet.f k l s = some (e, (true, ())) := by
  have key : ∀ (d n : Nat) (i : Int), 0 ≤ i → i + (d : Int) = (l.length : Int) → d < n → s ∈ keysE (l.drop i.toNat) → ∃ e, spec_DirGet.l0 k n l s i ByteArray.empty 0 0 0 0 = some (e, (true, ())) := by
    intro d
    induction d with
    | zero =>
      intro n i h0 h1 hn hm
      rw [List.drop_eq_nil_of_le (by omega)] at hm
      cases hm
    | succ d ih =>
      intro n i h0 h1 hn hm
      obtain ⟨n, rfl⟩ : ∃ q, n = q + 1 := ⟨n - 1, by omega⟩
      have hlt : i.toNat < l.length := by omega
      have e : l.drop i.toNat = l.getD i.toNat (Ty.dflt TEntry) :: l.drop (i + 1).toNat := by
        rw [List.drop_eq_getElem_cons hlt, show (i + 1).toNat = i.toNat + 1 by omega]
        simp [List.getD, hlt]
      rw [e] at hm
      simp only [spec_DirGet.l0, spec_DirGet.b0]
      rw [decT (show i < (l.length : Int) by omega), cond_true, inb_eq h0 (by omega), w64_eq (n := i + 1) (by omega) (by omega)]
      cases c : seq (l.getD i.toNat (Ty.dflt TEntry)).1 s with
      | true =>
        rw [cond_true, inb_eq h0 (by omega)]
        exact ⟨_, rfl⟩
      | false =>
        rw [cond_false]
        refine ih n (i + 1) (by omega) (by omega) (by omega) ?_
        rcases List.mem_cons.1 hm with q | q
        · have q' : s = (l.getD i.toNat (Ty.dflt TEntry)).1 := q
          rw [q', seq_refl] at c
          cases c
        · exact q
  unfold spec_DirGet.f spec_DirGet.t
  exact key l.length k 0 (Int.le_refl _) (by omega) (by omega) hs
/- The law. -/
theorem pgAt_ok (k : Nat) {code : List Int} (hw : Wf (.slice (.int .u8)) code) : ∃ x : Int, laws_at.f k code 0 = some (x, ()) ∧ 0 ≤ x ∧ x ≤ 255 := by
  unfold laws_at.f laws_at.t
  by_cases c : (0 : Int) < (code.length : Int)
  · rw [decT c, cond_true, inb_eq (Int.le_refl _) c]
    have hm : code.getD (Int.toNat 0) (Ty.dflt (.int .u8)) ∈ code := getD_mem (by show 0 < code.length; omega)
    have h := hw.2 _ hm
    have h1 : (Lit.int .u8 (code.getD (Int.toNat 0) (Ty.dflt (.int .u8)))).wf = true := h
    have h2 : (0 : Int) ≤ code.getD (Int.toNat 0) (Ty.dflt (.int .u8)) ∧ code.getD (Int.toNat 0) (Ty.dflt (.int .u8)) ≤ (255 : Int) := by simpa [Lit.wf, IntKind.min, IntKind.max, IntKind.bits, IntKind.signed] using h1
    generalize code.getD (Int.toNat 0) (Ty.dflt (.int .u8)) = z at h2
    change Int at z
    obtain ⟨h3, h4⟩ := h2
    have h3 : (0 : Int) ≤ z := h3
    have h4 : z ≤ (255 : Int) := h4
    refine ⟨z, ?_, h3, h4⟩
    show some (w64 z, ()) = some (z, ())
    rw [w64_eq (by omega) (by omega)]
  · rw [decF c, cond_false]
    have : code.length = 0 := by omega
    rw [this]
    exact ⟨0, rfl, by omega, by omega⟩
end Go.Proofs.Ytegeiflafmpefaa.G
