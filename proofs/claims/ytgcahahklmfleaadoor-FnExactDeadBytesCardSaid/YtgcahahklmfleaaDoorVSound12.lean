/- V: what a contract says, and how a call by contract goes on. -/
import Derived.Test.YtgcahahklmfleaaDoorVSound11
set_option linter.unusedVariables false
set_option linter.unusedSimpArgs false
namespace Go.V
open Go.RowKit

theorem apply_not (us : Ups) : ∀ {hp : Hp} {r : Nat}, r ∉ us.map (·.1) → apply hp us r = hp r := by
  induction us with
  | nil => intro hp r _; rfl
  | cons u us ih =>
    intro hp r h
    simp only [List.map_cons, List.mem_cons, not_or] at h
    simp only [apply]
    rw [ih h.2, upd_other hp _ h.1]
theorem apply_mem (us : Ups) : ∀ {hp : Hp} {r : Nat} {x : Row}, (us.map (·.1)).Nodup → (r, x) ∈ us → apply hp us r = x := by
  induction us with
  | nil => intro hp r x _ h; cases h
  | cons u us ih =>
    intro hp r x hn h
    simp only [List.map_cons, List.nodup_cons] at hn
    simp only [apply]
    rcases List.mem_cons.1 h with q | q
    · subst q
      rw [apply_not us hn.1, upd_same]
    · exact ih hn.2 q

theorem rowsO_keys {p : Bool} : ∀ {t : Ty} {x : t.den} {id : Nat}, (rowsO p t x id).map (·.1) = List.range' id t.rows
  | .slice _, _, id => by simp [rowsO, Ty.rows]
  | .pair a b, x, id => by simp only [rowsO, List.map_append, rowsO_keys, Ty.rows]; rw [List.range'_append_1]
  | .bool, _, _ => rfl
  | .int _, _, _ => rfl
  | .str, _, _ => rfl
  | .unit, _, _ => rfl
  | .opq, _, _ => rfl

/-- A result: its slices are rows of the caller's own now. bl: which. -/
def ResO (w : World) (X : Nat → Prop) (M : Nat → Prop) : (t : Ty) → t.den → List Value → List Blk → Prop
  | .slice e, l, cs, bl => ∃ v te xs, cs = [v] ∧ ownsM w M te e.size v l.length xs ∧ RdL (Rd w X e) l xs ∧ bl = [⟨v, (v.ownBlock).getD 0, e.size, l.length⟩]
  | .pair a b, x, cs, bl => ∃ c d b1 b2, cs = c ++ d ∧ bl = b1 ++ b2 ∧ ResO w X M a x.1 c b1 ∧ ResO w X M b x.2 d b2
  | .bool, x, cs, bl => cs = [.bool x] ∧ bl = []
  | .int k, x, cs, bl => cs = [.int k x] ∧ bl = []
  | .str, x, cs, bl => cs = [.string x] ∧ bl = []
  | .unit, _, cs, bl => cs = [] ∧ bl = []
  | .opq, _, _, _ => False

def blocksOf (bl : List Blk) : List Nat := bl.filterMap (·.v.ownBlock)

def valsRep (ts : List Ty) (cs : List Value) : List Value :=
  match ts with
  | [] => []
  | t :: ts => valOf t (cs.take t.size) :: valsRep ts (cs.drop t.size)

/-- One value, or a tuple of them. -/
def oneV : List Value → Value
  | [v] => v
  | vs => .tuple vs.toArray

/-- The values that come in; bs: the blocks that are handed over. -/
def ArgR (w : World) (X : Nat → Prop) : (A : List Pm) → (tup (ins A)).den → List Value → List Nat → Prop
  | [], _, us, bs => us = [] ∧ bs = []
  | .val t :: A, x, us, bs => ∃ c us', us = valOf t c :: us' ∧ Rd w X t x.1 c ∧ ArgR w X A x.2 us' bs
  | .io o t :: A, x, us, bs => ∃ b vs te us' bl bs', us = .pointer (some ⟨b, 0, none⟩) :: us' ∧ w.heap[b]? = some (.cells vs te (0, 0)) ∧ bs = b :: (blocksOf bl ++ bs') ∧
      (if o then ResO w X (fun _ => True) t x.1 vs.toList bl else bl = [] ∧ Rd w X t x.1 vs.toList) ∧ ArgR w X A x.2 us' bs'
  | .lend t :: A, x, us, bs => ∃ c us' bl bs', us = valOf t c :: us' ∧ bs = blocksOf bl ++ bs' ∧ ResO w X (fun _ => True) t x.1 c bl ∧ ArgR w X A x.2 us' bs'
  | .give t :: A, x, us, bs => ∃ c us' bl bs', us = valOf t c :: us' ∧ bs = blocksOf bl ++ bs' ∧ ResO w X (fun _ => True) t x.1 c bl ∧ ArgR w X A x.2 us' bs'
  | .fn f n :: A, x, us, bs => ∃ vs us', us = .func (.func f) #[] vs.toArray :: us' ∧ vs.length = n ∧ ArgR w X A x (vs ++ us') bs

/-- What went out by way of the arguments. -/
def OutR (w : World) (X : Nat → Prop) : (A : List Pm) → List Value → (tup (outT A)).den → List Nat → Prop
  | [], us, _, bs => us = [] ∧ bs = []
  | .val _ :: A, us, y, bs => ∃ u us', us = u :: us' ∧ OutR w X A us' y bs
  | .io o t :: A, us, y, bs => ∃ b vs te us' bl bs', us = .pointer (some ⟨b, 0, none⟩) :: us' ∧ w.heap[b]? = some (.cells vs te (0, 0)) ∧ bs = b :: (blocksOf bl ++ bs') ∧
      (if o then ResO w X (fun _ => True) t y.1 vs.toList bl else bl = [] ∧ Rd w X t y.1 vs.toList) ∧ OutR w X A us' y.2 bs'
  | .lend t :: A, us, y, bs => ∃ u us' bl bs', us = u :: us' ∧ bs = blocksOf bl ++ bs' ∧ ResO w X (fun _ => True) t y.1 u.cells.toList bl ∧ OutR w X A us' y.2 bs'
  | .give _ :: A, us, y, bs => ∃ u us', us = u :: us' ∧ OutR w X A us' y bs
  | .fn f n :: A, us, y, bs => ∃ vs us', us = .func (.func f) #[] vs.toArray :: us' ∧ vs.length = n ∧ OutR w X A (vs ++ us') y bs

/-- But for these blocks, what was there is as it was. -/
structure Kept (bs : List Nat) (w w' : World) : Prop where
  os : w'.os = w.os
  tape : w'.tape = w.tape
  output : w'.output = w.output
  size : w.heap.size ≤ w'.heap.size
  block : ∀ k, k < w.heap.size → k ∉ bs → w'.heap[k]? = w.heap[k]?

/-- What is known of the memory that was laid ahead of all calls: of the first n blocks. -/
structure Gl where
  n : Nat
  ok : World → Prop
  lt : ∀ w, ok w → n ≤ w.heap.size
  frame : ∀ w w', ok w → (∀ k, k < n → w'.heap[k]? = w.heap[k]?) → w.heap.size ≤ w'.heap.size → ok w'
def Gl.top : Gl := ⟨0, fun _ => True, fun _ _ => Nat.zero_le _, fun _ _ _ _ _ => trivial⟩
structure Ctr (J : Gl) (P : Program) (f : Nat) (c : Cn) : Prop where
  enters : ∀ (w : World) (as : Array Value), (callFunc f as).run P w = .ok (.enter f as) w
  calls : ∀ x y, c.fn x = some y → ∀ (w : World) (as : List Value) (bs : List Nat) (Xa : Nat → Prop), J.ok w → (∀ b ∈ bs, J.n ≤ b) → (∀ b, Xa b → b < w.heap.size ∧ b ∉ bs) → ArgR w Xa c.A x as bs → bs.Nodup →
    Calls P f as.toArray w fun e w' => ∃ bs' cs bl, e = .returned (oneV (valsRep c.R cs)) ∧ Kept bs w w' ∧ (bs' ++ blocksOf bl).Nodup ∧ (∀ b ∈ bs' ++ blocksOf bl, w.heap.size ≤ b ∨ b ∈ bs) ∧
      ∃ X' : Nat → Prop, (∀ b, X' b → b < w'.heap.size ∧ b ∉ bs' ++ blocksOf bl ∧ (w.heap.size ≤ b ∨ b ∈ bs ∨ (c.al = true ∧ Xa b))) ∧
      OutR w' X' c.A as (fstT (outT c.A) y) bs' ∧
      (if c.fresh then ResO w' X' (fun _ => True) (tup c.R) (sndT (outT c.A) y) cs bl else bl = [] ∧ Rd w' X' (tup c.R) (sndT (outT c.A) y) cs)
/-- The same, for the calls that one call makes. -/
structure CtrW (w0 : Bs) (P : Program) (f : Nat) (c : Cn) : Prop where
  enters : ∀ (w : World) (as : Array Value), (callFunc f as).run P w = .ok (.enter f as) w
  calls : ∀ x y, c.fn x = some y → ∀ (w : World) (as : List Value) (bs : List Nat) (Xa : Nat → Prop), BelowG w0 w → (∀ b ∈ bs, w0.mine b) → (∀ b, Xa b → b < w.heap.size ∧ b ∉ bs) → ArgR w Xa c.A x as bs → bs.Nodup →
    Calls P f as.toArray w fun e w' => ∃ bs' cs bl, e = .returned (oneV (valsRep c.R cs)) ∧ Kept bs w w' ∧ (bs' ++ blocksOf bl).Nodup ∧ (∀ b ∈ bs' ++ blocksOf bl, w.heap.size ≤ b ∨ b ∈ bs) ∧
      ∃ X' : Nat → Prop, (∀ b, X' b → b < w'.heap.size ∧ b ∉ bs' ++ blocksOf bl ∧ (w.heap.size ≤ b ∨ b ∈ bs ∨ (c.al = true ∧ Xa b))) ∧
      OutR w' X' c.A as (fstT (outT c.A) y) bs' ∧
      (if c.fresh then ResO w' X' (fun _ => True) (tup c.R) (sndT (outT c.A) y) cs bl else bl = [] ∧ Rd w' X' (tup c.R) (sndT (outT c.A) y) cs)
theorem Ctr.at {J : Gl} {P : Program} {f : Nat} {c : Cn} (h : Ctr J P f c) {w0 : Bs} (hJ : J.ok w0.w) (hB : ∀ b, w0.G b → J.n ≤ b) : CtrW w0 P f c :=
  ⟨h.enters, fun x y hy w as bs Xa hb hm h1 h2 h3 => h.calls x y hy w as bs Xa
    (J.frame _ _ hJ (fun k hk => hb.block k (Nat.lt_of_lt_of_le hk (J.lt _ hJ)) fun q => absurd (hB k q) (Nat.not_le.2 hk)) hb.size)
    (fun b q => (hm b q).elim (fun q => Nat.le_trans (J.lt _ hJ) q) (hB b)) h1 h2 h3⟩

theorem Rd.anyX {w : World} {X Y : Nat → Prop} : ∀ {t : Ty} {x : t.den} {cs : List Value}, t.rows = 0 → Rd w X t x cs → Rd w Y t x cs
  | .bool, _, _, _, h => h
  | .int _, _, _, _, h => h
  | .str, _, _, _, h => h
  | .slice _, _, _, h, _ => by cases h
  | .pair a b, _, _, h, ⟨c, d, e, h1, h2⟩ => by
    simp only [Ty.rows] at h
    exact ⟨c, d, e, h1.anyX (by omega), h2.anyX (by omega)⟩
  | .unit, _, _, _, h => h
  | .opq, _, _, _, h => h
theorem tnt_false {e : Ty} (h : tnt e = false) : e.rows = 0 := by
  unfold tnt at h
  rcases Nat.eq_zero_or_pos e.rows with q | q
  · exact q
  · have : Nat.blt 0 e.rows = true := by simp [Nat.blt, Nat.ble_eq]; omega
    rw [this] at h; cases h
/-- Elements of a row whose flag is down where they have no rows. -/
theorem rdl_tnt {w : World} {X : Nat → Prop} {Y : Bool → Nat → Prop} {p : Bool} {e : Ty} {l : List e.den} {xs : List Value} (h : RdL (Rd w X e) l xs) (hX : ∀ b, X b → Y p b) : RdL (Rd w (Y (p && tnt e)) e) l xs := by
  cases ht : tnt e with
  | true => rw [Bool.and_true]; exact h.mono hX (fun _ _ => rfl)
  | false => rw [Bool.and_false]; exact h.imp fun _ _ _ q => q.anyX (tnt_false ht)

section
variable {P : Program} {tb : Tab} {w0 : Bs} {w w' : World} {N : Nat → Prop} {φ : Nat → Blk} {tm : List AV} {hp : Hp} {a : Act}

theorem ResO.len {X : Nat → Prop} {B : Nat → Prop} : ∀ {t : Ty} {x : t.den} {cs : List Value} {bl : List Blk}, ResO w X B t x cs bl → cs.length = t.size ∧ bl.length = t.rows
  | .slice e, _, _, _, ⟨v, te, xs, h1, h2, h3, h4⟩ => by subst h1; subst h4; exact ⟨rfl, rfl⟩
  | .pair a b, _, _, _, ⟨c, d, b1, b2, h1, h2, h3, h4⟩ => by
    subst h1; subst h2
    simp only [List.length_append, h3.len.1, h3.len.2, h4.len.1, h4.len.2, Ty.size, Ty.rows]
    exact ⟨trivial, trivial⟩
  | .bool, _, _, _, ⟨h1, h2⟩ => by subst h1; subst h2; exact ⟨rfl, rfl⟩
  | .int _, _, _, _, ⟨h1, h2⟩ => by subst h1; subst h2; exact ⟨rfl, rfl⟩
  | .str, _, _, _, ⟨h1, h2⟩ => by subst h1; subst h2; exact ⟨rfl, rfl⟩
  | .unit, _, _, _, ⟨h1, h2⟩ => by subst h1; subst h2; exact ⟨rfl, rfl⟩
  | .opq, _, _, _, h => h.elim

/-- A result's cells in the caller's state. -/
theorem ResO.cells {w2 : World} {X : Nat → Prop} {B : Nat → Prop} {p : Bool} {Y : Bool → Nat → Prop} {N' : Nat → Prop} {φ' : Nat → Blk} : ∀ {t : Ty} {x : t.den} {cs : List Value} {bl : List Blk} {id : Nat}, ResO w X B t x cs bl →
    (∀ k (h : k < bl.length), φ' (id + k) = bl[k]) → (∀ k, k < bl.length → N' (id + k)) → RepL w2 Y N' φ' (injO p t x id) cs
  | .slice e, _, _, _, id, ⟨v, te, xs, h1, h2, h3, h4⟩, hφ, hN => by
    subst h1; subst h4
    obtain ⟨ad, c, hs, _⟩ := own_slice h2
    have e0 := hφ 0 (by simp)
    simp only [Nat.add_zero, List.getElem_cons_zero] at e0
    refine ⟨v, [], rfl, by rw [hs]; rfl, ⟨by simpa using hN 0 (by simp), by rw [e0], ad, _, c, hs⟩, rfl⟩
  | .pair a b, x, _, _, id, ⟨c, d, b1, b2, h1, h2, h3, h4⟩, hφ, hN => by
    subst h1; subst h2
    have l1 := h3.len
    refine RepL.append (h3.cells (fun k hk => ?_) (fun k hk => hN k (by rw [List.length_append]; omega))) (h4.cells (fun k hk => ?_) (fun k hk => ?_))
    · rw [hφ k (by rw [List.length_append]; omega), List.getElem_append_left hk]
    · rw [Nat.add_assoc, hφ (a.rows + k) (by rw [List.length_append]; omega), List.getElem_append_right (by omega)]
      congr 1
      omega
    · rw [Nat.add_assoc]
      exact hN _ (by rw [List.length_append]; omega)
  | .bool, _, _, _, _, ⟨h1, h2⟩, _, _ => by subst h1; exact ⟨_, _, rfl, rfl, rfl, rfl⟩
  | .int _, _, _, _, _, ⟨h1, h2⟩, _, _ => by subst h1; exact ⟨_, _, rfl, rfl, rfl, rfl⟩
  | .str, _, _, _, _, ⟨h1, h2⟩, _, _ => by subst h1; exact ⟨_, _, rfl, rfl, rfl, rfl⟩
  | .unit, _, _, _, _, ⟨h1, h2⟩, _, _ => by subst h1; rfl
  | .opq, _, _, _, _, h, _, _ => h.elim

theorem ResO.any {X Y : Nat → Prop} {M M' : Nat → Prop} (hX : ∀ b, X b → Y b) : ∀ {t : Ty} {x : t.den} {cs : List Value} {bl : List Blk}, ResO w X M t x cs bl → (∀ b ∈ blocksOf bl, M' b) → ResO w Y M' t x cs bl
  | .slice e, l, cs, bl, ⟨v, te, xs, h1, h2, h3, h4⟩, hM => by
    refine ⟨v, te, xs, h1, ownsM.of h2.row fun b hb => hM b ?_, h3.mono hX (fun _ _ => rfl), h4⟩
    rw [h4]
    exact List.mem_filterMap.2 ⟨_, List.mem_singleton.2 rfl, hb⟩
  | .pair a b, x, _, _, ⟨c, d, b1, b2, h1, h2, h3, h4⟩, hM => by
    subst h2
    simp only [blocksOf, List.filterMap_append, List.mem_append] at hM
    exact ⟨c, d, b1, b2, h1, rfl, h3.any hX fun b hb => hM b (Or.inl hb), h4.any hX fun b hb => hM b (Or.inr hb)⟩
  | .bool, x, _, _, h, _ => h
  | .int _, x, _, _, h, _ => h
  | .str, x, _, _, h, _ => h
  | .unit, _, _, _, h, _ => h
  | .opq, _, _, _, h, _ => h.elim

/-- What blocks updates make. -/
def blksU (φ : Nat → Blk) (us : Ups) : List Nat := us.filterMap fun u => blkOf φ u.1 u.2
theorem blksU_append {us vs : Ups} : blksU φ (us ++ vs) = blksU φ us ++ blksU φ vs := List.filterMap_append
theorem blocksOf_append {b1 b2 : List Blk} : blocksOf (b1 ++ b2) = blocksOf b1 ++ blocksOf b2 := List.filterMap_append
theorem blksU_kills {l : List Nat} : blksU φ (kills l) = [] := by
  induction l with
  | nil => rfl
  | cons r l ih => simp [blksU, kills, blkOf]
theorem kills_keys {l : List Nat} : (kills l).map (·.1) = l := by simp [kills, Function.comp_def]

theorem ResO.blks {X M : Nat → Prop} {p : Bool} : ∀ {t : Ty} {x : t.den} {cs : List Value} {bl : List Blk} {id : Nat}, ResO w X M t x cs bl → (∀ k (h : k < bl.length), φ (id + k) = bl[k]) → blksU φ (rowsO p t x id) = blocksOf bl
  | .slice e, l, _, _, id, ⟨v, te, xs, h1, h2, h3, h4⟩, hφ => by
    subst h4
    have e0 := hφ 0 (by simp)
    simp only [Nat.add_zero, List.getElem_cons_zero] at e0
    simp only [blksU, rowsO, blocksOf, List.filterMap_cons, List.filterMap_nil, blkOf, e0]
  | .pair a b, x, _, _, id, ⟨c, d, b1, b2, h1, h2, h3, h4⟩, hφ => by
    subst h2
    have l1 := h3.len
    rw [show rowsO p (.pair a b) x id = rowsO p a x.1 id ++ rowsO p b x.2 (id + a.rows) from rfl, blksU_append, blocksOf_append,
      h3.blks fun k hk => by rw [hφ k (by rw [List.length_append]; omega), List.getElem_append_left hk],
      h4.blks fun k hk => by
        rw [Nat.add_assoc, hφ (a.rows + k) (by rw [List.length_append]; omega), List.getElem_append_right (by omega)]
        congr 1
        omega]
  | .bool, x, _, _, _, ⟨_, h⟩, _ => by subst h; rfl
  | .int _, x, _, _, _, ⟨_, h⟩, _ => by subst h; rfl
  | .str, x, _, _, _, ⟨_, h⟩, _ => by subst h; rfl
  | .unit, _, _, _, _, ⟨_, h⟩, _ => by subst h; rfl
  | .opq, _, _, _, _, h, _ => h.elim

theorem ResO.rowsOk {X M M' : Nat → Prop} {p : Bool} {Y : Bool → Nat → Prop} (hX : ∀ b, X b → Y p b) : ∀ {t : Ty} {x : t.den} {cs : List Value} {bl : List Blk} {id : Nat}, ResO w X M t x cs bl →
    (∀ k (h : k < bl.length), φ (id + k) = bl[k]) → (∀ k, k < bl.length → N (id + k)) → (∀ b ∈ blocksOf bl, M' b) → ∀ r row, (r, row) ∈ rowsO p t x id → RowOk w Y N φ M' r row
  | .slice e, l, _, _, id, ⟨v, te, xs, h1, h2, h3, h4⟩, hφ, hN, hM, r, row, hm => by
    subst h4
    have e0 := hφ 0 (by simp)
    simp only [Nat.add_zero, List.getElem_cons_zero] at e0
    simp only [rowsO, List.mem_singleton, Prod.mk.injEq] at hm
    obtain ⟨rfl, rfl⟩ := hm
    refine ⟨by simpa using hN 0 (by simp), by rw [e0], by rw [e0], fun b hb => ?_, te, xs, ?_, rdl_tnt h3 hX⟩
    · rw [e0] at hb ⊢
      simp only at hb ⊢
      rw [hb]; rfl
    · rw [e0]
      exact ownsM.of h2.row fun b hb => hM b (List.mem_filterMap.2 ⟨_, List.mem_singleton.2 rfl, hb⟩)
  | .pair a b, x, _, _, id, ⟨c, d, b1, b2, h1, h2, h3, h4⟩, hφ, hN, hM, r, row, hm => by
    subst h2
    have l1 := h3.len
    simp only [blocksOf_append, List.mem_append] at hM
    simp only [rowsO] at hm
    rcases List.mem_append.1 hm with hm | hm
    · exact h3.rowsOk hX (fun k hk => by rw [hφ k (by rw [List.length_append]; omega), List.getElem_append_left hk]) (fun k hk => hN k (by rw [List.length_append]; omega)) (fun b hb => hM b (Or.inl hb)) r row hm
    · refine h4.rowsOk hX (fun k hk => ?_) (fun k hk => ?_) (fun b hb => hM b (Or.inr hb)) r row hm
      · rw [Nat.add_assoc, hφ (a.rows + k) (by rw [List.length_append]; omega), List.getElem_append_right (by omega)]
        congr 1
        omega
      · rw [Nat.add_assoc]
        exact hN _ (by rw [List.length_append]; omega)
  | .bool, _, _, _, _, _, _, _, _, _, _, hm => by simp [rowsO] at hm
  | .int _, _, _, _, _, _, _, _, _, _, _, hm => by simp [rowsO] at hm
  | .str, _, _, _, _, _, _, _, _, _, _, hm => by simp [rowsO] at hm
  | .unit, _, _, _, _, _, _, _, _, _, _, hm => by simp [rowsO] at hm
  | .opq, _, _, _, _, h, _, _, _, _, _, _ => h.elim

theorem filterMap_inj {α β : Type} {f : α → Option β} : ∀ {l : List α} {x y : α} {b : β}, (l.filterMap f).Nodup → x ∈ l → y ∈ l → f x = some b → f y = some b → x = y
  | [], _, _, _, _, h, _, _, _ => by cases h
  | z :: l, x, y, b, hn, hx, hy, h1, h2 => by
    rw [List.filterMap_cons] at hn
    have hn' : (l.filterMap f).Nodup := by
      split at hn
      · exact hn
      · exact (List.nodup_cons.1 hn).2
    have key : ∀ v, v ∈ l → f v = some b → f z ≠ some b := fun v hv h1 h2 => by
      rw [h2] at hn
      exact (List.nodup_cons.1 hn).1 (List.mem_filterMap.2 ⟨v, hv, h1⟩)
    rcases List.mem_cons.1 hx with q | q
    · rcases List.mem_cons.1 hy with q' | q'
      · rw [q, q']
      · subst q; exact absurd h1 (key y q' h2)
    · rcases List.mem_cons.1 hy with q' | q'
      · subst q'; exact absurd h2 (key x q h1)
      · exact filterMap_inj hn' q q' h1 h2

/-- Behind a call: what was not handed over is as it was; what was has become what the updates tell. -/
theorem Ok.call (h : Ok w0 N φ tm hp a w) {us : Ups} {gv bs own' : List Nat} {id n : Nat} {φ' : Nat → Blk} (hgv : ∀ r ∈ gv, N r) (hid : ∀ r, id ≤ r → r < id + n → ¬ N r)
    (hperm : (us.map (·.1)).Perm (gv ++ List.range' id n)) (hgn : gv.Nodup) (hk : Kept bs w w') (hbs : ∀ b ∈ bs, ∃ r ∈ gv, blkOf φ r (hp r) = some b)
    (hrows : ∀ r row, (r, row) ∈ us → RowOk w' (XX w0 w' φ' (apply hp us)) (fun r => N r ∨ (id ≤ r ∧ r < id + n)) φ' w0.mine r row) (hblks : blksU φ' us = own') (hnd : own'.Nodup)
    (hown : ∀ b ∈ own', w.heap.size ≤ b ∨ b ∈ bs) (e3 : ∀ r, N r → φ' r = φ r) : Ok w0 (fun r => N r ∨ (id ≤ r ∧ r < id + n)) φ' tm (apply hp us) a w' := by
  have hkn : (us.map (·.1)).Nodup := hperm.nodup_iff.2 (List.nodup_append.2 ⟨hgn, List.nodup_range', fun x hx y hy e => by
    subst e
    rw [List.mem_range'_1] at hy
    exact hid x hy.1 hy.2 (hgv x hx)⟩)
  have hkey : ∀ r, r ∈ us.map (·.1) ↔ r ∈ gv ∨ (id ≤ r ∧ r < id + n) := fun r => by rw [hperm.mem_iff, List.mem_append, List.mem_range'_1]
  have hout : ∀ r, r ∉ us.map (·.1) → apply hp us r = hp r := fun r q => apply_not _ q
  have hin : ∀ r, r ∈ us.map (·.1) → ∃ row, (r, row) ∈ us ∧ apply hp us r = row := fun r q => by
    obtain ⟨y, hy, rfl⟩ := List.mem_map.1 q
    exact ⟨y.2, hy, apply_mem _ hkn hy⟩
  have hold : ∀ s b, s ∉ us.map (·.1) → blkOf φ' s (apply hp us s) = some b → blkOf φ s (hp s) = some b := fun s b q hs => by
    rw [hout s q] at hs
    have hr := h.rows s
    cases hq : hp s with
    | dead => rw [hq] at hs; cases hs
    | fro p e l => rw [hq] at hs; cases hs
    | box cs => rw [hq] at hs hr; simp only [blkOf] at hs ⊢; rw [← e3 s hr.1]; exact hs
    | own p e l => rw [hq] at hs hr; simp only [blkOf] at hs ⊢; rw [← e3 s hr.1]; exact hs
  have hnew : ∀ s b, s ∈ us.map (·.1) → blkOf φ' s (apply hp us s) = some b → b ∈ own' ∧ ∃ row, (s, row) ∈ us ∧ blkOf φ' s row = some b := fun s b q hs => by
    obtain ⟨row, hm, e⟩ := hin s q
    rw [e] at hs
    exact ⟨by rw [← hblks]; exact List.mem_filterMap.2 ⟨_, hm, hs⟩, row, hm, hs⟩
  have hno : ∀ s b, s ∉ us.map (·.1) → blkOf φ s (hp s) = some b → b ∉ bs := fun s b q hs hb => by
    obtain ⟨r, hr, hr2⟩ := hbs b hb
    exact q ((hkey s).2 (Or.inl (by rw [h.disj s r b hs hr2]; exact hr)))
  have hWbs : ∀ b, b ∈ bs → Wr φ hp b := fun b hb => by
    obtain ⟨r, _, hr2⟩ := hbs b hb
    exact ⟨r, hr2⟩
  refine h.step (fun b => b ∈ bs) (fun _ q => Or.inl q) e3 ?_ hk.size (fun b hlt hb => hk.block b hlt hb) hWbs ?_ (fun s => ?_) (fun s s' b hs hs' => ?_)
  · refine h.below.next (fun b => b ∈ bs) (fun b hb => ?_) hk.os hk.tape hk.output hk.size fun k h1 h2 => hk.block k h1 h2
    obtain ⟨r, _, hr2⟩ := hbs b hb
    exact (h.blk_lt hr2).1
  · rintro b hlt ⟨s, hs⟩
    by_cases q : s ∈ us.map (·.1)
    · rcases hown b (hnew s b q hs).1 with g | g
      · omega
      · exact hWbs b g
    · exact ⟨s, hold s b q hs⟩
  · by_cases q : s ∈ us.map (·.1)
    · right
      obtain ⟨row, hm, e⟩ := hin s q
      rw [e]
      exact hrows s row hm
    · rw [hout s q]
      have hr := h.rows s
      cases hs : hp s with
      | dead => right; trivial
      | box cs => rw [hs] at hr; exact Or.inl ⟨rfl, hr.1, fun b hb => hno s b q (by rw [hs]; exact hb)⟩
      | own p' e' l' => rw [hs] at hr; exact Or.inl ⟨rfl, hr.1, fun b hb => hno s b q (by rw [hs]; exact hb)⟩
      | fro p' e' l' => rw [hs] at hr; exact Or.inl ⟨rfl, hr.1.1, fun b hb => hno s b q (by rw [hs]; exact hb)⟩
  · by_cases q : s ∈ us.map (·.1)
    · obtain ⟨b1, row, m1, k1⟩ := hnew s b q hs
      by_cases q' : s' ∈ us.map (·.1)
      · obtain ⟨_, row', m2, k2⟩ := hnew s' b q' hs'
        have := filterMap_inj (f := fun u : Nat × Row => blkOf φ' u.1 u.2) (by rw [← hblks] at hnd; exact hnd) m1 m2 k1 k2
        exact (Prod.mk.inj this).1
      · have h1 := hold s' b q' hs'
        rcases hown b b1 with g | g
        · have := (h.blk_lt h1).2; omega
        · exact absurd g (hno s' b q' h1)
    · have h1 := hold s b q hs
      by_cases q' : s' ∈ us.map (·.1)
      · obtain ⟨b1, _⟩ := hnew s' b q' hs'
        rcases hown b b1 with g | g
        · have := (h.blk_lt h1).2; omega
        · exact absurd g (hno s b q h1)
      · exact h.disj s s' b h1 (hold s' b q' hs')
end
end Go.V
