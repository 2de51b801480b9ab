/- V: what a law's row hands in. -/
import Derived.Test.YtgcahahklmfleaaDoorVSound30
import Derived.Test.YtgcahahklmfleaaDoorVSound31
import Derived.DataReads
import Derived.SizedLaws
set_option linter.unusedVariables false
set_option linter.unusedSimpArgs false
namespace Go.V
open Go.RowKit

def fldOk (tb : Tab) : Nat → List (Nat × Nat) → List Nat → Ty → Bool
  | _, [], [], .unit => true
  | n, (o, s) :: offs, t :: ts, .pair a b => Nat.beq o n && Nat.beq s a.size && decide (look tb.ty t = some a) && fldOk tb (n + s) offs ts b
  | _, _, _, _ => false
def rowTy (tb : Tab) (t : Nat) (u : Ty) : Bool :=
  match u with
  | .pair _ _ | .unit => (match look tb.off t, look tb.fty t with | some offs, some ts => fldOk tb 0 offs ts u | _, _ => false)
  | _ => true
def rowsCheck (tb : Tab) : Bool := tb.ty.all fun p => rowTy tb p.1 p.2

section
variable {H : Type} {enc : TypeId × Value → H} {P : Program} {w : World} {base : Nat} {spare : Nat → Bool} {held : Bool} {tb : Tab}

theorem look_row {t : Nat} {u : Ty} (h : rowsCheck tb = true) (hl : look tb.ty t = some u) : rowTy tb t u = true := List.all_eq_true.1 h _ (look_mem hl)

theorem cell_spot {a : Addr} {v : Value} (h : w.cell? a = some v) : a.spot = none ∧ a.block < w.heap.size := by
  unfold World.cell? at h
  split at h
  · rename_i c _ _ hb
    refine ⟨?_, ?_⟩
    · cases hs : a.spot with
      | none => rfl
      | some s => rw [hs] at h; simp at h
    · by_cases q : a.block < w.heap.size
      · exact q
      · rw [Array.getElem?_eq_none (by omega)] at hb; cases hb
  · cases h

theorem cellsOf_eq {t : Nat} {u : Ty} {i : TypeInfo} {d : TypeDesc} {z : Value} (ht : TyFact P tb t u i d z) : P.cellsOf t = u.size := by simp [Program.cellsOf, ht.info, ht.size]
theorem bytesOf_eq {t : Nat} {u : Ty} {i : TypeInfo} {d : TypeDesc} {z : Value} (ht : TyFact P tb t u i d z) : P.bytesOf t = u.bytes := by simp [Program.bytesOf, ht.info, ht.bytes]

/-- Elements that stand one behind the other. -/
theorem open_elems {e : Ty} {te : TypeId} {a : Addr} {fuel : Nat} (ha : a.spot = none) (hsz : P.cellsOf te = e.size)
    (ih : ∀ cs d ps, DataW.trod enc P w base spare held fuel te cs = some (d, ps) → (DataW.weights P te d).all (· ≤ reachBytes) = true → ∃ x : e.den, Rd w (fun b => b < w.heap.size) e x cs ∧ Wf e x) :
    ∀ (n s : Nat) (elems : List (DataW H × List MemPlace)), (List.range' s n).mapM (fun i => (w.cells? base (a.add (i * P.cellsOf te)) (P.cellsOf te)).bind (DataW.trod enc P w base spare held fuel te)) = some elems →
      (DataW.weightsAll P te (elems.map (·.1))).all (· ≤ reachBytes) = true →
      elems.length = n ∧ ∃ (l : List e.den) (xs : List Value), l.length = n ∧ RdL (Rd w (fun b => b < w.heap.size) e) l xs ∧ (∀ x ∈ l, Wf e x) ∧ ∀ j u, xs[j]? = some u → w.cell? ((a.add (s * e.size)).add j) = some u
  | 0, s, elems, h, _ => by
    simp at h
    subst h
    exact ⟨rfl, [], [], rfl, rfl, fun x q => (by cases q), fun j u q => by simp at q⟩
  | n + 1, s, elems, h, hw => by
    rw [List.range'_succ, List.mapM_cons] at h
    simp only [Option.bind_eq_bind, Option.bind_eq_some_iff, Option.pure_def, Option.some.injEq] at h
    obtain ⟨⟨d, ps⟩, ⟨cs, h1, h2⟩, rest, h3, rfl⟩ := h
    simp only [List.map_cons, DataW.weightsAll, List.all_append, Bool.and_eq_true] at hw
    obtain ⟨x, r1, r2⟩ := ih cs d ps h2 hw.1
    obtain ⟨k1, l, xs, k2, k3, k4, k5⟩ := open_elems ha hsz ih n (s + 1) rest h3 hw.2
    obtain ⟨_, c1, c2⟩ := World.cells?_some h1
    rw [hsz] at c1 c2
    refine ⟨by simp [k1], x :: l, cs ++ xs, by simp [k2], ⟨cs, xs, rfl, r1, k3⟩, fun y hy => ?_, fun j u hj => ?_⟩
    · rcases List.mem_cons.1 hy with q | q
      · subst q; exact r2
      · exact k4 y q
    · by_cases q : j < cs.length
      · rw [List.getElem?_append_left q] at hj
        rw [c2 j (by omega)]
        exact hj
      · rw [List.getElem?_append_right (by omega)] at hj
        have := k5 _ u hj
        have e1 : (a.add ((s + 1) * e.size)).add (j - cs.length) = (a.add (s * e.size)).add j := by
          cases a with
          | mk b o sp =>
            simp only at ha
            subst ha
            simp only [addr_add]
            congr 1
            rw [Nat.succ_mul]
            omega
        rw [← e1]
        exact this

/-- WHAT A ROW HANDS IN reads as values of V. -/
theorem open_rd (hP : tabCheck P tb = true) (hR : rowsCheck tb = true) : ∀ (fuel : Nat) (t : Nat) (u : Ty) (cs : List Value) (d : DataW H) (ps : List MemPlace), look tb.ty t = some u → plain u = true →
    DataW.trod enc P w base spare held fuel t cs = some (d, ps) → (DataW.weights P t d).all (· ≤ reachBytes) = true → ∃ x : u.den, Rd w (fun b => b < w.heap.size) u x cs ∧ Wf u x
  | 0, t, u, cs, d, ps, hl, hp, h, hw => by simp [DataW.trod] at h
  | fuel + 1, t, u, cs, d, ps, hl, hp, h, hw => by
    obtain ⟨i, td, z, ht⟩ := tyFact hP hl
    have hu := ht.under
    have hk := ht.kind
    unfold DataW.trod at h
    rw [hu] at h
    have agg : ∀ fs, td = .struct fs → rowTy tb t u = true → (∃ a b, u = .pair a b) ∨ u = .unit → ∃ x : u.den, Rd w (fun b => b < w.heap.size) u x cs ∧ Wf u x := by
      intro fs htd hrow hshape
      subst htd
      simp only [] at h
      split at h
      · rename_i hlen
        rw [cellsOf_eq ht] at hlen
        obtain ⟨xs, hxs, he⟩ := Option.map_eq_some_iff.1 h
        simp only [Prod.mk.injEq] at he
        obtain ⟨rfl, _⟩ := he
        have hrow' : ∃ offs ts, look tb.off t = some offs ∧ look tb.fty t = some ts ∧ fldOk tb 0 offs ts u = true := by
          unfold rowTy at hrow
          rcases hshape with ⟨a, b, rfl⟩ | rfl
          · simp only [] at hrow
            split at hrow
            · rename_i offs ts h1 h2; exact ⟨offs, ts, h1, h2, hrow⟩
            · cases hrow
          · simp only [] at hrow
            split at hrow
            · rename_i offs ts h1 h2; exact ⟨offs, ts, h1, h2, hrow⟩
            · cases hrow
        obtain ⟨offs, ts, h1, h2, h3⟩ := hrow'
        obtain ⟨fs1, q1, q2, _⟩ := offFact hP h1
        rw [hu] at q1
        cases q1
        obtain ⟨fs2, q3, q4⟩ := ftyFact hP h2
        rw [hu] at q3
        cases q3
        simp only [DataW.weights, hu] at hw
        -- field by field
        have key : ∀ (fl : List Field) (n : Nat) (offs : List (Nat × Nat)) (ts : List Nat) (u : Ty) (xs : List (DataW H × List MemPlace)), plain u = true → fldOk tb n offs ts u = true →
            fl.mapM (fun f => (P.info? f.type).map fun i => (f.offset, i.size)) = some offs → fl.map (·.type) = ts →
            fl.mapM (fun f => DataW.trod enc P w base spare held fuel f.type ((cs.drop f.offset).take (P.cellsOf f.type))) = some xs →
            (DataW.weightsEach P (fl.map (·.type)) (xs.map (·.1))).all (· ≤ reachBytes) = true → n + u.size = cs.length → ∃ x : u.den, Rd w (fun b => b < w.heap.size) u x (cs.drop n) ∧ Wf u x := by
          intro fl
          induction fl with
          | nil =>
            intro n offs ts u xs hp h3 ho hts hx hw hn
            simp at ho hts
            subst ho
            subst hts
            cases u <;> simp [fldOk] at h3
            refine ⟨(), ?_, trivial⟩
            show cs.drop n = []
            simp only [Ty.size] at hn
            exact List.drop_eq_nil_of_le (by omega)
          | cons f fl ih =>
            intro n offs ts u xs hp h3 ho hts hx hw hn
            rw [List.mapM_cons] at ho hx
            simp only [Option.bind_eq_bind, Option.bind_eq_some_iff, Option.pure_def, Option.some.injEq, Option.map_eq_some_iff] at ho hx
            obtain ⟨_, ⟨i1, hi1, rfl⟩, offs', ho', rfl⟩ := ho
            obtain ⟨⟨d1, p1⟩, hd1, xs', hx', rfl⟩ := hx
            simp only [List.map_cons] at hts
            subst hts
            cases u with
            | pair a b =>
              simp only [fldOk, Bool.and_eq_true, decide_eq_true_eq] at h3
              obtain ⟨⟨⟨z1, z2⟩, z3⟩, z4⟩ := h3
              have z1 := Nat.eq_of_beq_eq_true z1
              have z2 := Nat.eq_of_beq_eq_true z2
              simp only [plain, Bool.and_eq_true] at hp
              simp only [List.map_cons, DataW.weightsEach, List.all_append, Bool.and_eq_true] at hw
              obtain ⟨i2, td2, z', ht2⟩ := tyFact hP z3
              rw [cellsOf_eq ht2, z1] at hd1
              obtain ⟨x1, r1, r2⟩ := open_rd hP hR fuel f.type a _ d1 p1 z3 hp.1 hd1 hw.1
              simp only [Ty.size] at hn
              obtain ⟨x2, r3, r4⟩ := ih (n + a.size) offs' _ b xs' hp.2 (by rw [← z2]; exact z4) ho' rfl hx' hw.2 (by omega)
              refine ⟨(x1, x2), ⟨_, _, ?_, r1, r3⟩, r2, r4⟩
              rw [← List.drop_drop]
              exact (List.take_append_drop _ _).symm
            | _ => simp [fldOk] at h3
        obtain ⟨x, r1, r2⟩ := key fs.toList 0 offs ts u xs hp h3 q2 q4 hxs hw (by omega)
        exact ⟨x, by simpa using r1, r2⟩
      · cases h
    cases u with
    | bool =>
      cases td <;> simp [kindCheck] at hk
      cases cs with
      | nil => simp at h
      | cons v cs =>
        cases cs with
        | cons v2 cs => cases v <;> simp at h
        | nil =>
          cases v <;> simp at h
          exact ⟨_, rfl, trivial⟩
    | int k =>
      cases td <;> simp [kindCheck] at hk
      cases cs with
      | nil => simp at h
      | cons v cs =>
        cases cs with
        | cons v2 cs => cases v <;> simp at h
        | nil =>
          cases v <;> simp at h
          subst hk
          obtain ⟨⟨rfl, hwf⟩, _⟩ := h
          exact ⟨_, rfl, hwf⟩
    | str =>
      cases td <;> simp [kindCheck] at hk
      cases cs with
      | nil => simp at h
      | cons v cs =>
        cases cs with
        | cons v2 cs => cases v <;> simp at h
        | nil =>
          cases v <;> simp at h
          obtain ⟨_, rfl, _⟩ := h
          simp [DataW.weights] at hw
          exact ⟨_, rfl, hw⟩
    | slice e =>
      obtain ⟨te, hu2, hle, hsz, hpe, i2, d2, z2, ht2⟩ := ht.slice hP
      rw [hu] at hu2
      cases hu2
      cases cs with
      | nil => simp at h
      | cons v cs =>
        cases cs with
        | cons v2 cs => cases v <;> simp at h
        | nil =>
          cases v <;> simp at h
          rename_i ad len cap
          cases ad with
          | none =>
            cases len <;> cases cap <;> simp at h
            exact ⟨[], ⟨none, 0, 0, [], rfl, rfl, Nat.le_refl _, rfl, fun q => absurd rfl q⟩, by simp, fun x q => by cases q⟩
          | some ad =>
            simp only [] at h
            split at h
            · rename_i hc
              obtain ⟨hb, hlc, hcm⟩ := hc
              obtain ⟨elems, he, h⟩ := Option.bind_eq_some_iff.1 h
              obtain ⟨rest, hr, heq⟩ := Option.map_eq_some_iff.1 h
              simp only [Prod.mk.injEq] at heq
              obtain ⟨rfl, _⟩ := heq
              simp only [DataW.weights, hu, List.all_cons, List.all_append, Bool.and_eq_true, decide_eq_true_eq, List.length_map] at hw
              obtain ⟨w1, w2, w3⟩ := hw
              have ih := fun cs d ps h hw => open_rd hP hR fuel te e cs d ps hle hpe h hw
              by_cases hn : len = 0
              · subst hn
                exact ⟨[], ⟨some ad, 0, cap, [], rfl, rfl, Nat.zero_le _, rfl, fun q => absurd rfl q⟩, by simp, fun x q => by cases q⟩
              · have hlen := mapM_some_length he
                rw [List.length_range] at hlen
                have h0 := mapM_some_get he 0 0 (by rw [List.getElem?_range (by omega)])
                rw [List.getElem?_eq_getElem (show 0 < elems.length by omega)] at h0
                obtain ⟨cs0, c1, _⟩ := Option.bind_eq_some_iff.1 h0
                obtain ⟨_, c2, c3⟩ := World.cells?_some c1
                have c4 := c3 0 (by rw [cellsOf_eq ht2]; exact hsz)
                rw [List.getElem?_eq_getElem (show 0 < cs0.length by rw [c2, cellsOf_eq ht2]; exact hsz)] at c4
                obtain ⟨c5, c6⟩ := cell_spot c4
                have e0 : (ad.add (0 * P.cellsOf te)).add 0 = ad := by simp [Addr.add]
                rw [e0] at c5 c6
                obtain ⟨k1, l, xs, k2, k3, k4, k5⟩ := open_elems (fuel := fuel) c5 (cellsOf_eq ht2) ih len 0 elems (by rw [← List.range_eq_range']; exact he) w2
                cases ad with
                | mk b o sp =>
                  simp only at c5
                  subst c5
                  refine ⟨l, ⟨some ⟨b, o, none⟩, len, cap, xs, rfl, k2.symm, hlc, k3, fun _ => ⟨b, o, rfl, c6, fun j u hj => ?_⟩⟩, ?_, k4⟩
                  · have := k5 j u hj
                    rw [Nat.zero_mul, addr_add, addr_add, Nat.add_zero] at this
                    exact this
                  · rw [k2, ← hlen, ← bytesOf_eq ht2]
                    exact Nat.le_trans (Nat.mul_le_mul_right _ (Nat.le_add_right _ _)) w1
            · cases h
    | pair a b =>
      cases td <;> simp [kindCheck] at hk
      · have hrow := look_row hR hl
        unfold rowTy at hrow
        simp only [] at hrow
        split at hrow
        · rename_i offs ts h1 h2
          obtain ⟨fs1, q1, _⟩ := offFact hP h1
          rw [hu] at q1
          cases q1
        · cases hrow
      · exact agg _ rfl (look_row hR hl) (Or.inl ⟨a, b, rfl⟩)
    | unit =>
      cases td <;> simp [kindCheck] at hk
      exact agg _ rfl (look_row hR hl) (Or.inr rfl)
    | opq => cases hp
end
end Go.V
