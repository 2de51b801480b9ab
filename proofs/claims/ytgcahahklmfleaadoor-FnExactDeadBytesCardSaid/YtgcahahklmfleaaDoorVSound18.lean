/- V: each operation that V carries out, the model carries out alike. -/
import Derived.Test.YtgcahahklmfleaaDoorVSound17
set_option linter.unusedVariables false
set_option linter.unusedSimpArgs false
namespace Go.V
open Go.RowKit

section
variable {P : Program} {tb : Tab} {ct : List (Nat × Cn)} {w0 : Bs} {w : World} {N : Nat → Prop} {φ : Nat → Blk} {tm : List AV} {hp : Hp} {a : Act} {Q : Exit → Act → World → Prop}

theorem run_field (hP : tabCheck P tb = true) {X : Bool → Nat → Prop} {s f n : Nat} {u : Ty} (hn : offOf tb s f = some n) (hf : fieldTy tb s f = some u) {cs : List AV} {v : Value} (hv : RepV w X N φ (.agg cs) v) (hle : n + u.size ≤ cs.length) :
    ∃ y, (Instr.field s v f).run P w = .ok y w ∧ RepV w X N φ (wrapAgg u ((cs.drop n).take u.size)) y := by
  unfold offOf at hn
  unfold fieldTy at hf
  cases h1 : look tb.off s with
  | none => rw [h1] at hn; cases hn
  | some offs =>
    cases h2 : look tb.fty s with
    | none => rw [h2] at hf; cases hf
    | some ts =>
      rw [h1] at hn
      rw [h2] at hf
      simp only [] at hn hf
      cases h3 : offs[f]? with
      | none => rw [h3] at hn; cases hn
      | some p =>
        cases h4 : ts[f]? with
        | none => rw [h4] at hf; cases hf
        | some t =>
          rw [h3] at hn
          rw [h4] at hf
          simp only [Option.some.injEq] at hn hf
          obtain ⟨fs, e1, _, e2⟩ := offFact hP h1
          obtain ⟨fs', e3, e4⟩ := ftyFact hP h2
          rw [e1] at e3
          cases e3
          obtain ⟨_, fd, i, g1, g2, g3, g4⟩ := e2 f p h3
          have ht : fd.type = t := by
            have := congrArg (fun l => l[f]?) e4
            simp only [List.getElem?_map] at this
            rw [h4, show fs.toList[f]? = some fd by simpa using g1] at this
            simpa using this
          obtain ⟨i', d, z, htf⟩ := tyFact hP hf
          unfold RepV at hv
          obtain ⟨vs, rfl, hr⟩ := hv
          have hl := hr.len
          have hsub : RepL w X N φ ((cs.drop n).take u.size) ((vs.drop n).take u.size) := (hr.drop n).take u.size
          have hsl : ((cs.drop n).take u.size).length = u.size := by simp; omega
          have key := valOf_rep hsub hsl
          refine ⟨_, ?_, key⟩
          have e5 : (Instr.field s (.agg vs.toArray) f).run P w = (part t vs.toArray n).run P w := by
            simp [Instr.field, run_underlying e1, g1, asAgg, ht, g2, hn]
          rw [e5]
          unfold part
          rw [Sem.run_bind, htf.run_isAgg, Result.andThen_ok]
          unfold valOf
          cases ha : u.agg with
          | true =>
            simp only [if_true]
            rw [Sem.run_bind, htf.run_sizeOf, Result.andThen_ok, Sem.run_pure]
            congr 2
            apply Array.ext'
            simp [List.drop_take, Nat.add_sub_cancel_left, List.extract_eq_take_drop]
          | false =>
            have h1' : u.size = 1 := by cases u <;> simp_all [Ty.agg, Ty.size]
            simp only [Bool.false_eq_true, if_false]
            have hlt : n < vs.length := by omega
            have : vs.toArray[n]? = some vs[n] := by simp [hlt]
            rw [this]
            simp only [Sem.run_pure]
            congr 1
            rw [h1']
            have : vs.drop n = vs[n] :: vs.drop (n + 1) := List.drop_eq_getElem_cons hlt
            rw [this]
            rfl

theorem fill_elems (h : Ok w0 N φ tm hp a w) {hp0 : Hp} (hf : FrEq hp0 hp) {e : Ty} {b : Bool} {ρ : Operand → AV} {ρv : Operand → Value} (hρ : ∀ x, RepV w (XX w0 w φ hp) N φ (ρ x) (ρv x)) (h0 : 0 < e.size) :
    ∀ (ps : List (Nat × Operand)) {l0 l : List e.den} {b0 : Bool}, elems hp0 e ρ ps l0 b0 = some (l, b) → (∀ p ∈ ps, ∀ r p' e' l', AV.ref r ∈ cellsOf (ρ p.2) → hp r ≠ .own p' e' l') →
      (b0 = true → b = true) ∧ l.length = l0.length ∧ ∀ cells : Array Value, RdL (Rd w (XX w0 w φ hp b) e) l0 cells.toList → ∃ cells', Instr.fill (fun i => some (i * e.size, e.size)) cells (ps.map fun p => (p.1, ρv p.2)) = some cells' ∧ RdL (Rd w (XX w0 w φ hp b) e) l cells'.toList
  | [], l0, l, b0, hs, _ => by
    simp only [elems, Option.some.injEq, Prod.mk.injEq] at hs
    obtain ⟨rfl, rfl⟩ := hs
    exact ⟨fun q => q, rfl, fun cells hc => ⟨cells, rfl, hc⟩⟩
  | (i, x) :: ps, l0, l, b0, hs, hno => by
    simp only [elems] at hs
    cases hp1 : prj hp0 e (cellsOf (ρ x)) with
    | none => rw [hp1] at hs; cases hs
    | some y =>
      rw [hp1] at hs
      obtain ⟨hc, hs⟩ := fin_bif' hs
      simp only [Bool.and_eq_true] at hc
      obtain ⟨htold, hlt⟩ := hc
      have hlt : i < l0.length := Nat.lt_of_succ_le (Nat.le_of_ble_eq_true hlt)
      obtain ⟨ih1, ih2, ih3⟩ := fill_elems h hf hρ h0 ps hs (fun p hp' => hno p (List.mem_cons_of_mem _ hp'))
      have hb0 : b0 = true → b = true := fun q => ih1 (by rw [q]; rfl)
      have hbt : tnt e = true → taint hp0 (cellsOf (ρ x)) = true → b = true := fun qe q => ih1 (by rw [q, qe]; cases b0 <;> rfl)
      refine ⟨hb0, by rw [ih2, List.length_set], fun cells hcell => ?_⟩
      have hcr := cells_rep (hρ x) htold
      have hrd : Rd w (XX w0 w φ hp b) e y (ρv x).cells.toList := by
        cases hte : tnt e with
        | true => exact prj_ok h e (reads_frozen h (q := b) (fun c hc' ht => hbt hte (by rw [← hf.taint]; exact taint_mem hc' ht)) (fun r p' e' l' hm => hno (i, x) (List.mem_cons_self ..) r p' e' l' hm)) (by rw [hf.prj]; exact hp1) hcr
        | false => exact (prj_ok h e (reads_frozen h (q := true) (fun _ _ _ => rfl) (fun r p' e' l' hm => hno (i, x) (List.mem_cons_self ..) r p' e' l' hm)) (by rw [hf.prj]; exact hp1) hcr).anyX (tnt_false hte)
      have hl := hrd.len
      have hcl := hcell.length (fun x d q => q.len)
      have hmul : i * e.size + e.size ≤ l0.length * e.size := by rw [← Nat.succ_mul]; exact Nat.mul_le_mul_right _ hlt
      have hle : i * e.size + (ρv x).cells.size ≤ cells.size := by
        have h1 : (ρv x).cells.size = e.size := by simpa using hl
        have h2 : cells.size = l0.length * e.size := by simpa using hcl
        omega
      have hset := RdL.set (R := Rd w (XX w0 w φ hp b) e) (fun x d q => q.len) i y _ hlt hcell hrd
      obtain ⟨cells', g1, g2⟩ := ih3 (((ρv x).cells.zipIdx.foldl (fun cs (c, j) => cs.setIfInBounds (i * e.size + j) c) cells)) (by
        rw [fold_fill _ _ _ hle]
        have h1 : (ρv x).cells.size = e.size := by simpa using hl
        rw [h1]
        exact hset)
      refine ⟨cells', ?_, g2⟩
      simp only [List.map_cons, Instr.fill]
      rw [if_neg]
      · exact g1
      · have h1 : (ρv x).cells.size = e.size := by simpa using hl
        simp [h1]
        have h2 : cells.size = l0.length * e.size := by simpa using hcl
        omega

theorem run_buildSlice_ok (h : Ok w0 N φ tm hp a w) (hP : tabCheck P tb = true) {t n : Nat} {e : Ty} {l : List e.den} {b : Bool} {id : Nat} {dst : Option Nat} {ps : Array (Nat × Operand)} (he : elemTy tb t = some e) (hid : ¬ N id)
    (hs : elems hp e (val tb tm 0) ps.toList (List.replicate n e.dflt) false = some (l, b)) (hn : n ≤ 100000) (hmul : n * e.size ≤ 16777216) :
    ∃ u w', (Instr.buildSlice t n (ps.map fun (i, x) => (i, a.eval x))).run P w = .ok u w' ∧ After w0 N φ tm hp dst (.ref id) (freeze hp (ps.toList.flatMap fun p => cellsOf (val tb tm 0 p.2)) ++ [(id, .own b e l)]) id (id + 1) (a.put dst u) w' := by
  obtain ⟨te, hu, hsz, hpl, i, dd, z, ht⟩ := elemFact hP he
  have hzr := fun X => zeroCheck_rd (w := w) (X := X) ht.zeroOk hpl
  have hzl : z.cells.size = e.size := by simpa using (hzr (fun _ => True)).len
  have hf := frz_freeze hp (ps.toList.flatMap fun p => cellsOf (val tb tm 0 p.2))
  obtain ⟨heq, hmem⟩ := hf.eq
  have h1 := h.freeze _ hf
  have hno : ∀ p ∈ ps.toList, ∀ r p' e' l', AV.ref r ∈ cellsOf (val tb tm 0 p.2) → apply hp (freeze hp (ps.toList.flatMap fun p => cellsOf (val tb tm 0 p.2))) r ≠ .own p' e' l' := by
    intro p hp' r p' e' l' hm hq
    rcases heq r with g | ⟨p2, e2, l2, g1, g2⟩
    · rw [g] at hq
      have := hmem r _ (freeze_mem hp (List.mem_flatMap.2 ⟨p, hp', hm⟩) hq)
      rw [g, hq] at this
      cases this
    · rw [g2] at hq; cases hq
  obtain ⟨_, e1, e2⟩ := fill_elems h1 heq (fun x => h1.val (tb := tb) 0 x) hsz ps.toList hs hno
  have hsz' : i.size = e.size := ht.size
  obtain ⟨cells, g1, g2⟩ := e2 (madeCells z.cells (n * e.size)) (made_rd (e := e) (z := z.cells) (hzr _) hsz n)
  have hlen : l.length = n := by rw [e1, List.length_replicate]
  have hrun : (Instr.buildSlice t n (ps.map fun (i, x) => (i, a.eval x))).run P w = .ok (.slice (some ⟨w.heap.size, 0, none⟩) n n) (w.alloc (.cells cells te)) := by
    have hmade : (Array.range (n * e.size)).map (z.cells[· % z.cells.size]!) = madeCells z.cells (n * e.size) := rfl
    have hbig : ¬ (16777216 < n * e.size) := by omega
    have hfill : Instr.fill (fun i => some (i * e.size, e.size)) (madeCells z.cells (n * e.size)) (List.map (fun x => (x.fst, a.eval x.snd)) ps.toList) = some cells := g1
    by_cases hn0 : n * e.size = 0
    · have hm0 : madeCells z.cells (n * e.size) = #[] := by rw [hn0]; simp [madeCells, Array.range_zero']
      rw [hm0] at hfill
      simp [Instr.buildSlice, run_underlying hu, sizeOf, typeInfo, ht.info, hsz', hn0, newRow, Array.range_zero', hfill]
    · simp [Instr.buildSlice, run_underlying hu, sizeOf, typeInfo, ht.info, hsz', hbig, hn0, zeroValue, ht.zero, newRow, hmade, hfill]
  refine ⟨_, _, hrun, ?_⟩
  refine After.weaken _ rfl ?_
  exact alloc_own h1 hid te n hlen.symm (by unfold maxLen; omega) g2

theorem call_ok (h : Ok w0 N φ tm hp a w) (hP : tabCheck P tb = true) (hC : ∀ f c, look ct f = some c → CtrW w0 P f c) {o : Oper} {v : AV} {us : Ups} {id nx : Nat}
    (hs : oper tb ct o tm hp id (fun v us nx => some (v, us, nx)) = some (v, us, nx)) (hid : ∀ r, id ≤ r → r < nx → ¬ N r) {c : Call} (hop : o.op = .call c) : o.wp P a w (After w0 N φ tm hp o.dst v us id nx) Q := by
  have V := fun t x => h.val (tb := tb) t x
  simp only [oper, hop] at hs
  split at hs
  · rename_i hc
    split at hs
    · rename_i x t ha ht
      rw [lenOf_bind] at hs
      cases hl : lenOf ((look tb.ty t).getD .opq) hp (val tb tm t x) some with
      | none => rw [hl] at hs; cases hs
      | some z =>
        rw [hl] at hs
        cases hs
        obtain ⟨q, g1, g2⟩ := len_ok h hP (ty := o.type) hl (V t x)
        have ha : c.args = #[x] := Array.ext' (by simpa using ha)
        have ht : c.argTypes = #[t] := Array.ext' (by simpa using ht)
        exact wp_pure h (run_value (s := Builtin.len_ #[t] o.type #[a.eval x]) (by simp [execOp, hop, resolve, hc, invoke, builtin, ha, ht]) g1) g2
    · cases hs
  · rename_i hc
    split at hs
    · rename_i d s t t' ha ht
      split at hs
      · rename_i e he
        cases hb : Nat.beq t t' with
        | false => rw [hb] at hs; cases hs
        | true =>
        rw [hb, cond_true] at hs
        have htt := Nat.eq_of_beq_eq_true hb
        subst htt
        rw [appendOp_bind] at hs
        cases hl : appendOp e hp id (val tb tm t d) (val tb tm t s) (fun v us => some (v, us)) with
        | none => rw [hl] at hs; cases hs
        | some z =>
          obtain ⟨z1, z2⟩ := z
          rw [hl] at hs
          cases hs
          obtain ⟨u, w', g1, g2⟩ := append_ok h hP (ty := o.type) (dst := o.dst) he (hid _ (Nat.le_refl _) (Nat.lt_succ_self _)) hl (V t d) (V t s)
          have ha : c.args = #[d, s] := Array.ext' (by simpa using ha)
          have ht : c.argTypes = #[t, t] := Array.ext' (by simpa using ht)
          exact wp_value (run_value (s := Builtin.append_ #[t, t] o.type #[a.eval d, a.eval s]) (by simp [execOp, hop, resolve, hc, invoke, builtin, ha, ht]) g1) g2
      · cases hs
    · cases hs
  · rename_i hc
    split at hs
    · rename_i z hz
      cases hs
      have hr := repT_map (w := w) (X := XX w0 w φ hp) (N := N) (φ := φ) (f := val tb tm 0) (g := a.eval) (V 0) c.args.toList
      obtain ⟨y, g1, g2⟩ := okmax (P := P) (t := 0) (u := o.type) hz (vs := c.args.map a.eval) (by rw [Array.toList_map]; exact hr) c.argTypes
      exact wp_pure h (run_value (s := Builtin.max_ c.argTypes o.type (c.args.map a.eval)) (by simp [execOp, hop, resolve, hc, invoke, builtin]) g1) g2
    · cases hs
  · rename_i hc
    split at hs
    · rename_i z hz
      cases hs
      have hr := repT_map (w := w) (X := XX w0 w φ hp) (N := N) (φ := φ) (f := val tb tm 0) (g := a.eval) (V 0) c.args.toList
      obtain ⟨y, g1, g2⟩ := okmin (P := P) (t := 0) (u := o.type) hz (vs := c.args.map a.eval) (by rw [Array.toList_map]; exact hr) c.argTypes
      exact wp_pure h (run_value (s := Builtin.min_ c.argTypes o.type (c.args.map a.eval)) (by simp [execOp, hop, resolve, hc, invoke, builtin]) g1) g2
    · cases hs
  · rename_i x hc
    split at hs
    · rename_i q hq
      unfold calleeOf at hq
      split at hq
      · rename_i f cs hfv
        split at hq
        · rename_i cn hcn
          cases hq
          have hctr := hC f cn hcn
          have hfn := V 0 x
          rw [hfv] at hfn
          unfold RepV at hfn
          obtain ⟨ws, hw, hws⟩ := hfn
          have hrep := repT_map (w := w) (X := XX w0 w φ hp) (N := N) (φ := φ) (f := val tb tm 0) (g := a.eval) (V 0) c.args.toList
          have hcalls := callC_ok h hctr hs (hrep.append hws) hid
          have hrun : (execOp a.eval o).run P w = .ok (.enter f (c.args.map a.eval ++ ws.toArray)) w := by
            have := hctr.enters w (c.args.map a.eval ++ ws.toArray)
            simp only [execOp, hop, resolve, hc, hw, Deferred.ofValue, pure_bind, invoke, Array.empty_append]
            exact this
          unfold Oper.wp
          rw [hrun, Oper.upon_enter]
          rw [show (c.args.toList.map a.eval ++ ws).toArray = c.args.map a.eval ++ ws.toArray from Array.ext' (by simp)] at hcalls
          refine hcalls.mono fun e w' he => ?_
          obtain ⟨u, rfl, φ', e1, hok, hu⟩ := he
          exact ⟨φ', e1, hok.put o.dst hu⟩
        · cases hq
      · cases hq
    · cases hs
  · cases hs

set_option maxHeartbeats 4000000 in
theorem op_ok (h : Ok w0 N φ tm hp a w) (hP : tabCheck P tb = true) (hE : EqOk P tb) (hC : ∀ f c, look ct f = some c → CtrW w0 P f c) {o : Oper} {v : AV} {us : Ups} {id nx : Nat}
    (hs : oper tb ct o tm hp id (fun v us nx => some (v, us, nx)) = some (v, us, nx)) (hid : ∀ r, id ≤ r → r < nx → ¬ N r) : o.wp P a w (After w0 N φ tm hp o.dst v us id nx) Q := by
  have V := fun t x => h.val (tb := tb) t x
  cases hop : o.op with
  | move x =>
    simp only [oper, hop] at hs
    cases hs
    exact wp_pure h (by simp [execOp, hop]) (V _ x)
  | assign x =>
    simp only [oper, hop] at hs
    cases hs
    exact wp_pure h (by simp [execOp, hop]) (V _ x)
  | pick c x y =>
    simp only [oper, hop] at hs
    split at hs
    · rename_i b hb
      have hc := V o.type c
      rw [hb] at hc
      have hc : a.eval c = .bool b := hc
      cases b with
      | true =>
        cases hs
        exact wp_pure h (by simp [execOp, hop, hc, asBool]) (V _ x)
      | false =>
        cases hs
        exact wp_pure h (by simp [execOp, hop, hc, asBool]) (V _ y)
    · cases hs
  | box t x =>
    simp only [oper, hop] at hs
    split at hs
    · rename_i u hu
      obtain ⟨hc, hs⟩ := fin_bif' hs
      cases hs
      simp only [Bool.and_eq_true] at hc
      have hx := cells_rep (V t x) hc.1
      exact wp_value (run_value (s := Instr.box t (a.eval x)) (by simp only [execOp, hop]) (by simp [Instr.box, run_newVar])) (alloc_box h (hid _ (Nat.le_refl _) (Nat.lt_succ_self _)) t hx)
    · cases hs
  | alloc t =>
    simp only [oper, hop] at hs
    split at hs
    · rename_i u hu
      cases hs
      obtain ⟨i, d, z, ht⟩ := tyFact hP hu
      exact wp_value (run_value (s := Instr.alloc t true (.tuple #[])) (by simp only [execOp, hop]) (by simp [Instr.alloc, zeroValue, typeInfo, ht.info, ht.zero, run_newVar])) (alloc_box h (hid _ (Nat.le_refl _) (Nat.lt_succ_self _)) t (zeroCheck_rep ht.zeroOk))
    · cases hs
  | build t ps =>
    simp only [oper, hop] at hs
    split at hs
    · rename_i u offs hu ho
      split at hs
      · rename_i cs hcs
        cases hs
        obtain ⟨y, g1, g2⟩ := run_build' hP (V 0) hu ho hcs
        exact wp_pure h (run_value (s := Instr.build t (ps.map fun (i, x) => (i, a.eval x))) (by simp only [execOp, hop]) g1) g2
      · cases hs
    · cases hs
  | buildSlice t n ps =>
    simp only [oper, hop] at hs
    split at hs
    · rename_i e he
      split at hs
      · rename_i l b hl
        obtain ⟨hc, hs⟩ := fin_bif' hs
        simp only [Bool.and_eq_true] at hc
        cases hs
        obtain ⟨u, w', g1, g2⟩ := run_buildSlice_ok h hP he (hid _ (Nat.le_refl _) (Nat.lt_succ_self _)) hl (Nat.le_of_ble_eq_true hc.1) (Nat.le_of_ble_eq_true hc.2)
        exact wp_value (run_value (s := Instr.buildSlice t n (ps.map fun (i, x) => (i, a.eval x))) (by simp only [execOp, hop]) g1) g2
      · cases hs
    · cases hs
  | load t x =>
    simp only [oper, hop] at hs
    split at hs
    · rename_i u hu
      obtain ⟨i, d, z, ht⟩ := tyFact hP hu
      rw [ld_bind] at hs
      cases hl : ld hp u (val tb tm 0 x) some with
      | none => rw [hl] at hs; cases hs
      | some y =>
        rw [hl] at hs
        cases hs
        obtain ⟨q, g1, g2⟩ := ld_ok h ht hl (V 0 x)
        exact wp_pure h (run_value (s := Instr.loadAt t (a.eval x)) (by simp only [execOp, hop]) g1) g2
    · cases hs
  | store t x y =>
    simp only [oper, hop] at hs
    split at hs
    · rename_i u hu
      obtain ⟨i, d, z, ht⟩ := tyFact hP hu
      rw [storeTo_bind] at hs
      cases hl : storeTo hp u (val tb tm 0 x) (val tb tm t y) some with
      | none => rw [hl] at hs; cases hs
      | some us' =>
        rw [hl] at hs
        cases hs
        obtain ⟨w', g1, g2⟩ := store_ok h ht hl (V 0 x) (V t y)
        refine wp_skip' (w' := w') (by simp [execOp, hop, g1]) ⟨φ, fun _ _ => rfl, ?_⟩
        have e : (fun r => N r ∨ (id ≤ r ∧ r < id)) = N := funext fun r => propext ⟨fun q => q.elim (fun q => q) (fun q => by omega), Or.inl⟩
        rw [e]
        exact g2.put o.dst (v := .junk) trivial
    · cases hs
  | nilCheck x =>
    simp only [oper, hop] at hs
    have hx := V 0 x
    split at hs
    · rename_i r i f hv
      rw [hv] at hx
      cases hs
      have hx' := hx
      obtain ⟨_, _, e⟩ := hx'
      exact wp_pure h (u := a.eval x) (by simp [execOp, hop, e]) hx
    · rename_i p e l i f hv
      rw [hv] at hx
      cases hs
      have hx' := hx
      obtain ⟨_, b, o', xs, e', _⟩ := hx'
      exact wp_pure h (u := a.eval x) (by simp [execOp, hop, e']) hx
    · cases hs
  | binOp op t x y u =>
    simp only [oper, hop] at hs
    rw [binop_bind] at hs
    cases hl : binop (isBool (look tb.ty t)) (look tb.eqs t) op (val tb tm t x) (val tb tm u y) some with
    | none => rw [hl] at hs; cases hs
    | some z =>
      rw [hl] at hs
      cases hs
      obtain ⟨q, g1, g2⟩ := binop_ok hP hE hl (V t x) (V u y) x y
      exact wp_pure h (run_value (s := do eqGuard op t x y (a.eval x) (a.eval y); binOp op t (a.eval x) (a.eval y)) (by simp only [execOp, hop]) g1) g2
  | unOp op t x =>
    simp only [oper, hop] at hs
    rw [unop_bind] at hs
    cases hl : unop op (val tb tm t x) some with
    | none => rw [hl] at hs; cases hs
    | some z =>
      rw [hl] at hs
      cases hs
      obtain ⟨q, g1, g2⟩ := unop_ok hl (V t x)
      exact wp_pure h (run_value (s := Op.unary op (a.eval x)) (by simp only [execOp, hop]) g1) g2
  | convert s d x =>
    simp only [oper, hop] at hs
    have hx := V s x
    split at hs
    · rename_i kd T k n hd hsT hv
      obtain ⟨_, _, _, h1⟩ := tyFact hP hd
      obtain ⟨_, _, _, h2⟩ := tyFact hP hsT
      rw [hv] at hx
      have hx : a.eval x = .int k n := hx
      cases hs
      exact wp_pure h (run_value (s := convert s d (a.eval x)) (by simp only [execOp, hop]) (by rw [hx]; exact run_convert_int h2.under h1.intU)) rfl
    · rename_i T y hd hsT hv
      obtain ⟨_, _, _, h1⟩ := tyFact hP hd
      obtain ⟨_, _, _, h2⟩ := tyFact hP hsT
      rw [hv] at hx
      have hx : a.eval x = .string y := hx
      cases hs
      exact wp_pure h (run_value (s := convert s d (a.eval x)) (by simp only [execOp, hop]) (by rw [hx]; exact run_convert_str h2.under h1.strU)) rfl
    · rename_i hd hsT _
      obtain ⟨_, _, _, h1⟩ := tyFact hP hd
      obtain ⟨_, _, _, h2⟩ := tyFact hP hsT
      obtain ⟨te, hu, _, _, _, _, _, _, h3⟩ := h2.slice hP
      split at hs
      · rename_i l hl
        cases hs
        have hrd := getSl_ok h (Y := fun _ => True) ⟨fun _ _ _ _ => trivial, fun _ _ _ _ _ _ _ _ => trivial⟩ hl hx
        exact wp_pure h (run_value (s := convert s d (a.eval x)) (by simp only [execOp, hop]) (run_convert_bytes hu h1.strU h3.intU hrd)) rfl
      · cases hs
    · cases hs
  | makeSlice t l c =>
    simp only [oper, hop] at hs
    split at hs
    · rename_i e n m he hl hc
      obtain ⟨c1, hs⟩ := fin_bif' hs
      obtain ⟨c2, hs⟩ := fin_bif' hs
      obtain ⟨c3, hs⟩ := fin_bif' hs
      cases hs
      have c1 := of_decide_eq_true c1
      have c2 := of_decide_eq_true c2
      simp only [room, Bool.and_eq_true, decide_eq_true_eq] at c3
      obtain ⟨c3, c4⟩ := c3
      subst c1
      obtain ⟨te, hu, hsz, hpl, i, dd, z, ht⟩ := elemFact hP he
      have hlv := V 0 l
      have hcv := V 0 c
      rw [hl] at hlv
      rw [hc] at hcv
      have hlv : a.eval l = .int .i64 n := hlv
      have hcv : a.eval c = .int .i64 n := hcv
      have hby := ht.bytes
      have hb : (i.bytes : Int) * n ≤ 281474976710656 := by
        have h1 : n.toNat * i.bytes ≤ 140737488355328 := Nat.le_trans (Nat.mul_le_mul_left _ (Nat.le_of_eq hby)) c3
        have h2 : ((n.toNat * i.bytes : Nat) : Int) = n * (i.bytes : Int) := by rw [Int.natCast_mul, Int.toNat_of_nonneg c2]
        rw [Int.mul_comm]
        omega
      have hr := run_make (P := P) w t te i z hu ht.info ht.zero .i64 .i64 n n c2 (Int.le_refl _) hb (by omega)
      have hzr := fun X => zeroCheck_rd (w := w) (X := X) ht.zeroOk hpl
      have hrd := made_rd (hzr (XX w0 w φ hp false)) hsz n.toNat
      rw [← ht.size] at hrd
      refine wp_value (run_value (s := Instr.makeSlice t (a.eval l) (a.eval c)) (by simp only [execOp, hop]) (by rw [hlv, hcv]; exact hr)) ?_
      have := alloc_own h (hid _ (Nat.le_refl _) (Nat.lt_succ_self _)) te n.toNat (by simp) (by unfold maxLen; omega) hrd (dst := o.dst)
      exact this
    · cases hs
  | slice t x lo hi mx =>
    cases mx with
    | some _ => simp only [oper, hop] at hs; cases hs
    | none =>
      simp only [oper, hop] at hs
      rw [sliceOp_bind] at hs
      cases hl : sliceOp ((look tb.ty t).getD .opq) hp (val tb tm t x) (lo.map (val tb tm 0)) (hi.map (val tb tm 0)) (fun v us => some (v, us)) with
      | none => rw [hl] at hs; cases hs
      | some z =>
        obtain ⟨z1, z2⟩ := z
        rw [hl] at hs
        cases hs
        obtain ⟨hf, q, g1, g2⟩ := slice_ok h hP hl (V t x) (optRep_map (V 0) lo) (optRep_map (V 0) hi)
        exact wp_frozen h hf (run_value (s := Instr.sliceAt t (a.eval x) (lo.map a.eval) (hi.map a.eval) (Option.map a.eval none)) (by simp only [execOp, hop]) g1) g2
  | fieldAddr s x f =>
    simp only [oper, hop] at hs
    split at hs
    · rename_i n hn
      rw [addOff_bind] at hs
      cases hl : addOff (val tb tm 0 x) n some with
      | none => rw [hl] at hs; cases hs
      | some z =>
        rw [hl] at hs
        cases hs
        obtain ⟨b, o', e, g⟩ := addOff_ok hl (V 0 x)
        exact wp_pure h (run_value (s := Instr.fieldAt s (a.eval x) f) (by simp only [execOp, hop]) (by rw [e]; exact run_fieldAt hP hn b o')) g
    · cases hs
  | field s x f =>
    simp only [oper, hop] at hs
    split at hs
    · rename_i n cs u hn hv hu
      obtain ⟨c1, hs⟩ := fin_bif' hs
      cases hs
      have hx := V s x
      rw [hv] at hx
      obtain ⟨q, g1, g2⟩ := run_field hP hn hu hx (Nat.le_of_ble_eq_true c1)
      exact wp_pure h (run_value (s := Instr.field s (a.eval x) f) (by simp only [execOp, hop]) g1) g2
    · cases hs
  | indexAddr t x i =>
    simp only [oper, hop] at hs
    rw [indexAddr_bind] at hs
    cases hl : indexAddr tb hp t (val tb tm t x) (val tb tm 0 i) some with
    | none => rw [hl] at hs; cases hs
    | some z =>
      rw [hl] at hs
      cases hs
      obtain ⟨q, g1, g2⟩ := indexAddr_ok h hP hl (V t x) (V 0 i)
      exact wp_pure h (run_value (s := Instr.indexAt t (a.eval x) (a.eval i)) (by simp only [execOp, hop]) g1) g2
  | index t x i =>
    simp only [oper, hop] at hs
    split at hs
    · rename_i s k n ht hx hi
      obtain ⟨c1, hs⟩ := fin_bif' hs
      obtain ⟨c2, hs⟩ := fin_bif' hs
      cases hs
      obtain ⟨_, _, _, htf⟩ := tyFact hP ht
      have h1 := V t x
      have h2 := V 0 i
      rw [hx] at h1
      rw [hi] at h2
      have h1 : a.eval x = .string s := h1
      have h2 : a.eval i = .int k n := h2
      exact wp_pure h (run_value (s := Instr.index t (a.eval x) (a.eval i)) (by simp only [execOp, hop]) (by rw [h1, h2]; exact run_index_str htf.strU (of_decide_eq_true c1) (of_decide_eq_true c2))) rfl
    · cases hs
  | extract x i =>
    simp only [oper, hop] at hs
    split at hs
    · rename_i vs hv
      split at hs
      · rename_i y hy
        cases hs
        have hx := V 0 x
        rw [hv] at hx
        unfold RepV at hx
        obtain ⟨us, e, hr⟩ := hx
        obtain ⟨q, g1, g2⟩ := repL_getElem hr hy
        exact wp_pure h (run_value (s := Instr.extract (a.eval x) i) (by simp only [execOp, hop]) (by rw [e]; simp [Instr.extract, g1])) g2
      · cases hs
    · cases hs
  | makeFunc fn first caps =>
    cases fn with
    | func f =>
      simp only [oper, hop] at hs
      split at hs
      · rename_i hfst
        cases hs
        have hfst : first = #[] := by simpa using hfst
        refine wp_pure h (u := .func (.func f) #[] (caps.map a.eval)) (by simp [execOp, hop, Instr.makeFunc, hfst]) ?_
        exact ⟨caps.toList.map a.eval, by rw [show (caps.toList.map a.eval).toArray = caps.map a.eval from Array.ext' (by simp)], repT_map (V 0) _⟩
      · cases hs
    | _ => unfold oper at hs; rw [hop] at hs; cases hs
  | call c => exact call_ok h hP hC hs hid hop
  | _ => unfold oper at hs; rw [hop] at hs; cases hs
end
end Go.V
