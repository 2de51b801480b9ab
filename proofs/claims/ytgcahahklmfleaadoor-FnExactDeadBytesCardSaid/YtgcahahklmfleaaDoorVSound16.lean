/- V: every operation that V carries out, the model carries out, and the states stay alike. -/
import Derived.Test.YtgcahahklmfleaaDoorVSound15
set_option linter.unusedVariables false
set_option linter.unusedSimpArgs false
namespace Go.V
open Go.RowKit

section
variable {P : Program} {tb : Tab} {ct : List (Nat × Cn)} {w0 : Bs} {w : World} {N : Nat → Prop} {φ : Nat → Blk} {tm : List AV} {hp : Hp} {a : Act} {Q : Exit → Act → World → Prop}

theorem run_value {o : Oper} {s : Sem Value} {v : Value} {w' : World} (he : execOp a.eval o = (do pure (Next.value (← s)))) (h : s.run P w = .ok v w') : (execOp a.eval o).run P w = .ok (.value v) w' := by
  rw [he]; simp [h]

theorem run_convert_int {s d : TypeId} {k k' : IntKind} {n : Int} {td : TypeDesc} (hs : P.underlying s = some td) (hd : P.underlying d = some (.int k)) : (convert s d (.int k' n)).run P w = .ok (.int k (k.wrap n)) w := by
  unfold convert
  simp [run_underlying hs, run_underlying hd, Conv.intToInt]
theorem run_convert_str {s d : TypeId} {x : ByteArray} {td : TypeDesc} (hs : P.underlying s = some td) (hd : P.underlying d = some .string) : (convert s d (.string x)).run P w = .ok (.string x) w := by
  unfold convert
  simp [run_underlying hs, run_underlying hd]

/-- Bytes, as a string. -/
theorem fold_bytes (f : Value → ByteArray → Sem (ForInStep ByteArray)) (hf : ∀ n s, f (.int .u8 n) s = pure (ForInStep.yield (s.push (UInt8.ofNat n.toNat)))) : ∀ (l : List Int) (acc : ByteArray),
    (forIn (m := Sem) (l.map fun n => Value.int .u8 n) acc f).run P w = .ok (acc ++ bytesOf l) w
  | [], acc => by
    simp only [List.map_nil, List.forIn_nil, Sem.run_pure]
    congr 1
    apply ByteArray.ext
    simp [bytesOf]
  | n :: l, acc => by
    have ih := fold_bytes f hf l (acc.push (UInt8.ofNat n.toNat))
    simp only [List.map_cons, List.forIn_cons, Sem.run_bind, hf, Sem.run_pure, Result.andThen_ok]
    rw [ih]
    congr 1
    apply ByteArray.ext
    simp [bytesOf]

theorem run_bytes {X : Nat → Prop} {l : List Int} {v : Value} (h : Rd w X (.slice (.int .u8)) l [v]) : (Conv.bytesToString v).run P w = .ok (.string (bytesOf l)) w := by
  obtain ⟨ad, n, c, xs, hc, hn, hle, hl, hr⟩ := h
  cases hc
  have hx : xs = l.map fun n => Value.int .u8 n := by
    clear hn hle hr
    induction l generalizing xs with
    | nil => cases hl; rfl
    | cons m l ih =>
      obtain ⟨d, r, e, h1, h2⟩ := hl
      cases h1
      rw [e, ih r h2]
      rfl
  cases ad with
  | none =>
    have : l = [] := by
      cases l with
      | nil => rfl
      | cons m l => obtain ⟨b, o, hq, _⟩ := hr (by simp); cases hq
    subst this
    simp [Conv.bytesToString, bytesOf]
    rfl
  | some ad =>
    have hc : (loadCells ad n).run P w = .ok xs.toArray w := by
      have hxl : xs.length = n := by rw [hx, List.length_map, hn]
      rw [← hxl]
      refine run_loadCells_list (P := P) w ad xs fun j u hj => ?_
      obtain ⟨b, o, hq, _, hcell⟩ := hr (by intro q; subst q; cases hl; simp at hj)
      cases hq
      rw [addr_add]
      exact hcell j u hj
    unfold Conv.bytesToString
    simp only [Sem.run_bind, hc, Result.andThen_ok]
    simp only [List.forIn_toArray]
    rw [hx, fold_bytes (P := P) (w := w) _ (fun n s => rfl) l ByteArray.empty]
    simp

theorem run_convert_bytes {X : Nat → Prop} {s d te : TypeId} {l : List Int} {v : Value} (hs : P.underlying s = some (.slice te)) (hd : P.underlying d = some .string) (he : P.underlying te = some (.int .u8)) (h : Rd w X (.slice (.int .u8)) l [v]) :
    (convert s d v).run P w = .ok (.string (bytesOf l)) w := by
  have hb := run_bytes (P := P) h
  obtain ⟨ad, n, c, xs, hc, _⟩ := h
  cases hc
  unfold convert
  cases ad <;> simp [run_underlying hs, run_underlying hd, run_underlying he, hb]

theorem TyFact.strU {t : Nat} {i : TypeInfo} {d : TypeDesc} {z : Value} (ht : TyFact P tb t .str i d z) : P.underlying t = some .string := by
  have hk := ht.kind
  have hu := ht.under
  cases d <;> simp [kindCheck] at hk
  exact hu
theorem TyFact.intU {t : Nat} {k : IntKind} {i : TypeInfo} {d : TypeDesc} {z : Value} (ht : TyFact P tb t (.int k) i d z) : P.underlying t = some (.int k) := by
  have hk := ht.kind
  have hu := ht.under
  cases d <;> simp [kindCheck] at hk
  subst hk
  exact hu

theorem run_index_str {t : TypeId} {k : IntKind} {s : ByteArray} {n : Int} (hu : P.underlying t = some .string) (h0 : 0 ≤ n) (h1 : n < (s.size : Int)) : (Instr.index t (.string s) (.int k n)).run P w = .ok (.int .u8 (byteAt s n)) w := by
  obtain ⟨m, rfl⟩ := Int.eq_ofNat_of_zero_le h0
  have hm : m < s.size := by omega
  have hm' : m < s.data.size := hm
  have e : s[m]? = some s[m] := by simp [hm]
  simp [Instr.index, asIntOf, run_underlying hu, byteAt, e]
  rw [Array.getElem?_eq_getElem hm']
  rfl

end
end Go.V
