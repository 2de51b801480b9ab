/- V: a law's row out of its contract. -/
import Derived.Test.YtgcahahklmfleaaDoorVSound33
import Derived.ChangeReads
import Derived.ChangeOld
import Derived.OpenShut
import Derived.DataShut
set_option linter.unusedVariables false
set_option linter.unusedSimpArgs false
namespace Go.V
open Go.RowKit

section
variable {H : Type} {enc : TypeId × Value → H} {P : Program} {w w' : World} {held : Bool} {tb : Tab}

theorem cells_below (hb : Below w.heap.size w w') {base : Nat} {a : Addr} {n : Nat} {cs : List Value} (h : w.cells? base a n = some cs) : w'.cells? base a n = some cs := by
  obtain ⟨h1, h2, h3⟩ := World.cells?_some h
  refine World.cells?_of_each h1 h2 fun i hi => ?_
  have h4 := h3 i hi
  rw [List.getElem?_eq_getElem (by omega)] at h4
  obtain ⟨_, h5⟩ := cell_spot h4
  rw [List.getElem?_eq_getElem (by omega), ← h4]
  unfold World.cell?
  rw [hb.block _ h5]

theorem elem_below (hb : Below w.heap.size w w') {base : Nat} {a : Addr} {n : Nat} {f g : List Value → Option (DataW H × List MemPlace)} (hfg : ∀ cs y, f cs = some y → g cs = some y) {y : DataW H × List MemPlace}
    (h : (w.cells? base a n).bind f = some y) : (w'.cells? base a n).bind g = some y := by
  obtain ⟨cs, h1, h2⟩ := Option.bind_eq_some_iff.1 h
  exact Option.bind_eq_some_iff.2 ⟨cs, cells_below hb h1, hfg cs y h2⟩

theorem trod_below (hP : tabCheck P tb = true) (hR : rowsCheck tb = true) (hb : Below w.heap.size w w') {base : Nat} : ∀ (fuel : Nat) (t : Nat) (u : Ty) (cs : List Value) (d : DataW H × List MemPlace), look tb.ty t = some u → plain u = true →
    DataW.trod enc P w base (fun _ => true) held fuel t cs = some d → DataW.trod enc P w' base (fun b => decide (b < w.heap.size)) held fuel t cs = some d
  | 0, t, u, cs, d, hl, hp, h => by simp [DataW.trod] at h
  | fuel + 1, t, u, cs, d, hl, hp, h => by
    obtain ⟨i, td, z, ht⟩ := tyFact hP hl
    have hu := ht.under
    have hk := ht.kind
    unfold DataW.trod at h ⊢
    rw [hu] at h ⊢
    have agg : ∀ fs, td = .struct fs → rowTy tb t u = true → ((∃ a b, u = .pair a b) ∨ u = .unit) → ∀ f ∈ fs.toList, ∃ u', look tb.ty f.type = some u' ∧ plain u' = true := by
      intro fs htd hrow hshape f hf
      subst htd
      have hrow' : ∃ offs ts, look tb.fty t = some ts ∧ fldOk tb 0 offs ts u = true := by
        unfold rowTy at hrow
        rcases hshape with ⟨a, b, rfl⟩ | rfl <;> simp only [] at hrow <;> split at hrow
        · rename_i offs ts h1 h2; exact ⟨offs, ts, h2, hrow⟩
        · cases hrow
        · rename_i offs ts h1 h2; exact ⟨offs, ts, h2, hrow⟩
        · cases hrow
      obtain ⟨offs, ts, h2, h3⟩ := hrow'
      obtain ⟨fs2, q3, q4⟩ := ftyFact hP h2
      rw [hu] at q3
      cases q3
      have hmem : f.type ∈ ts := by rw [← q4]; exact List.mem_map_of_mem hf
      have key : ∀ (ts : List Nat) (n : Nat) (offs : List (Nat × Nat)) (u : Ty), fldOk tb n offs ts u = true → plain u = true → ∀ t ∈ ts, ∃ u', look tb.ty t = some u' ∧ plain u' = true := by
        intro ts
        induction ts with
        | nil => intro n offs u _ _ t ht; cases ht
        | cons t ts ih =>
          intro n offs u h3 hp t' ht'
          cases offs with
          | nil => cases u <;> simp [fldOk] at h3
          | cons p offs =>
            cases u with
            | pair a b =>
              simp only [fldOk, Bool.and_eq_true, decide_eq_true_eq] at h3
              simp only [plain, Bool.and_eq_true] at hp
              rcases List.mem_cons.1 ht' with q | q
              · subst q; exact ⟨a, h3.1.2, hp.1⟩
              · exact ih _ _ _ h3.2 hp.2 t' q
            | _ => simp [fldOk] at h3
      exact key ts 0 offs u h3 hp f.type hmem
    have str : ∀ fs, td = .struct fs → rowTy tb t u = true → ((∃ a b, u = .pair a b) ∨ u = .unit) →
        (if cs.length = P.cellsOf t then (fs.toList.mapM fun f => DataW.trod enc P w base (fun _ => true) held fuel f.type ((cs.drop f.offset).take (P.cellsOf f.type))).map fun xs => (DataW.agg (xs.map (·.1)), xs.flatMap (·.2)) else none) = some d →
        (if cs.length = P.cellsOf t then (fs.toList.mapM fun f => DataW.trod enc P w' base (fun b => decide (b < w.heap.size)) held fuel f.type ((cs.drop f.offset).take (P.cellsOf f.type))).map fun xs => (DataW.agg (xs.map (·.1)), xs.flatMap (·.2)) else none) = some d := by
      intro fs htd hrow hshape h
      have ha := agg fs htd hrow hshape
      split at h
      · rename_i hlen
        rw [if_pos hlen]
        obtain ⟨xs, h1, h2⟩ := Option.map_eq_some_iff.1 h
        refine Option.map_eq_some_iff.2 ⟨xs, ?_, h2⟩
        refine mapM_carry h1 fun f y hf _ hy => ?_
        obtain ⟨u', q1, q2⟩ := ha f hf
        exact trod_below hP hR hb fuel f.type u' _ y q1 q2 hy
      · cases h
    cases u with
    | bool =>
      cases td <;> simp [kindCheck] at hk
      cases cs with
      | nil => simp at h
      | cons v cs =>
        cases cs with
        | cons v2 cs => cases v <;> simp at h
        | nil =>
          cases v <;> simp at h ⊢
          exact h
    | int k =>
      cases td <;> simp [kindCheck] at hk
      cases cs with
      | nil => simp at h
      | cons v cs =>
        cases cs with
        | cons v2 cs => cases v <;> simp at h
        | nil =>
          cases v <;> simp at h ⊢
          exact h
    | str =>
      cases td <;> simp [kindCheck] at hk
      cases cs with
      | nil => simp at h
      | cons v cs =>
        cases cs with
        | cons v2 cs => cases v <;> simp at h
        | nil =>
          cases v <;> simp at h ⊢
          exact h
    | slice e =>
      obtain ⟨te, hu2, hle, hsz, hpe, i2, d2, z2, ht2⟩ := ht.slice hP
      rw [hu] at hu2
      cases hu2
      cases cs with
      | nil => simp at h
      | cons v cs =>
        cases cs with
        | cons v2 cs => cases v <;> simp at h
        | nil =>
          cases v with
          | slice ad len cap =>
            cases ad with
            | none =>
              cases len <;> cases cap <;> simp at h ⊢
              exact h
            | some ad =>
              simp only [] at h ⊢
              split at h
              · rename_i hc
                rw [if_pos hc]
                obtain ⟨elems, he, h⟩ := Option.bind_eq_some_iff.1 h
                obtain ⟨rest, hr, heq⟩ := Option.map_eq_some_iff.1 h
                rw [if_pos trivial] at hr
                have hel : ∀ (i : Nat) (y : DataW H × List MemPlace), ((w.cells? base (ad.add (i * P.cellsOf te)) (P.cellsOf te)).bind (DataW.trod enc P w base (fun _ => true) held fuel te)) = some y →
                    ((w'.cells? base (ad.add (i * P.cellsOf te)) (P.cellsOf te)).bind (DataW.trod enc P w' base (fun b => decide (b < w.heap.size)) held fuel te)) = some y := fun i y hy =>
                  elem_below hb (fun cs y hcs => trod_below hP hR hb fuel te e cs y hle hpe hcs) hy
                refine Option.bind_eq_some_iff.2 ⟨elems, mapM_carry he fun i y _ _ hy => hel i y hy, ?_⟩
                refine Option.map_eq_some_iff.2 ⟨rest, ?_, heq⟩
                by_cases hlt : ad.block < w.heap.size
                · rw [if_pos (by simpa using hlt)]
                  exact mapM_carry hr fun i y _ _ hy => hel (len + i) y hy
                · rw [if_neg (by simpa using hlt)]
                  have h0 : cap - len = 0 := by
                    cases hq : cap - len with
                    | zero => rfl
                    | succ m =>
                      exfalso
                      rw [hq] at hr
                      have hl2 := mapM_some_length hr
                      rw [List.length_range] at hl2
                      have g0 := mapM_some_get hr 0 0 (by rw [List.getElem?_range (by omega)])
                      rw [List.getElem?_eq_getElem (show 0 < rest.length by omega)] at g0
                      obtain ⟨cs0, c1, _⟩ := Option.bind_eq_some_iff.1 g0
                      have := World.cells?_block c1 (by rw [cellsOf_eq ht2]; exact hsz)
                      apply hlt
                      have e1 : ∀ n, (ad.add n).block = ad.block := fun n => by unfold Addr.add; split <;> rfl
                      rw [e1] at this
                      exact this
                  rw [h0] at hr
                  simp at hr
                  rw [hr]
              · cases h
          | _ => simp at h
    | pair a b =>
      cases td <;> simp [kindCheck] at hk
      · have hrow := look_row hR hl
        unfold rowTy at hrow
        simp only [] at hrow
        split at hrow
        · rename_i offs ts h1 h2
          obtain ⟨fs1, q1, _⟩ := offFact hP h1
          rw [hu] at q1
          cases q1
        · cases hrow
      · exact str _ rfl (look_row hR hl) (Or.inl ⟨a, b, rfl⟩) h
    | unit =>
      cases td <;> simp [kindCheck] at hk
      exact str _ rfl (look_row hR hl) (Or.inr rfl) h
    | opq => cases hp

theorem trodAll_below (hP : tabCheck P tb = true) (hR : rowsCheck tb = true) (hb : Below w.heap.size w w') {base : Nat} : ∀ {ts : List TypeId} {us : List Ty} {vs : List Value} {ds : List (DataW H)} {p : List MemPlace}, ts.map (look tb.ty) = us.map some → us.all plain = true →
    DataW.TrodAll enc P w base (fun _ => true) held ts vs ds p → DataW.TrodAll enc P w' base (fun b => decide (b < w.heap.size)) held ts vs ds p
  | [], [], vs, ds, p, hl, hp, h => by
    cases vs <;> cases ds <;> simp [DataW.TrodAll] at h ⊢
    exact h
  | [], _ :: _, vs, ds, p, hl, hp, h => by cases hl
  | _ :: _, [], vs, ds, p, hl, hp, h => by cases hl
  | t :: ts, u :: us, vs, ds, p, hl, hp, h => by
    obtain ⟨v, vs', d, ds', p1, q1, rfl, rfl, rfl, h1, h2⟩ := ChangeShapes.trodAll_cons h
    simp only [List.map_cons, List.cons.injEq] at hl
    simp only [List.all_cons, Bool.and_eq_true] at hp
    obtain ⟨fuel, hf⟩ := h1
    exact ⟨p1, q1, ⟨fuel, trod_below hP hR hb fuel t u _ _ hl.1 hp.1 hf⟩, trodAll_below hP hR hb hl.2 hp.2 h2, rfl⟩

/-- A LAW THAT RETURNS true for all arguments: its row's contract. -/
theorem law_contract {f : FuncId} {fn : Func} {s : ChangeSpec} {A : List Pm} {al : Bool} {tbool : TypeId} (hAv : A.all isVal = true) (hP : tabCheck P tb = true) (hR : rowsCheck tb = true) (hus : fn.params.toList.map (look tb.ty) = (ins A).map some) (hpl : (ins A).all plain = true)
    (hres : fn.resultTypes = #[tbool]) (hbool : P.underlying tbool = some .bool) (hvars : s.vars = []) (hfn : ∀ ds : List (DataW H), ds.length = (ins A).length → s.fn H ds = { results := [.lit (.bool true)], args := ds })
    {g : Nat → (tup (ins A)).den → Option (tup (outT A ++ [.bool])).den} {J : Gl} (hg : ∀ k, Ctr J P f ⟨A, [.bool], true, al, g k⟩) (pure' : ∀ x, Wf (tup (ins A)) x → ∃ k r, g k x = some r ∧ sndT (outT A) r = (true, ()))
    (W : World) (hJ : J.ok W) (base : Nat) (args : Array Value) (ds gs : List (DataW H)) (before : List MemPlace) (hval : ∀ (j : Nat) t v, fn.params[j]? = some t → args[j]? = some v → Value.okWide P W .any base t v)
    (hW : DataW.Whole enc P fn.params.toList s.vars false W args.toList ds gs before) (hsz : (DataW.weightsEach P (fn.params.toList ++ s.plain.varTypes P) (ds ++ gs)).all (· ≤ reachBytes) = true) :
    Calls P f args W fun e W' => ∃ v, e = .returned v ∧ s.post enc P fn false true false false W args v W' := by
  have hW' := hW
  obtain ⟨p, q, hA, hV, rfl, hfz, hnd⟩ := hW
  rw [hvars] at hV
  obtain ⟨rfl, rfl⟩ : gs = [] ∧ q = [] := by
    cases gs <;> simp [DataW.TrodVars] at hV
    exact ⟨rfl, hV⟩
  have hlen : ∀ {ts : List TypeId} {vs : List Value} {ds : List (DataW H)} {p : List MemPlace}, DataW.TrodAll enc P W 0 (fun _ => true) true ts vs ds p → ds.length = ts.length := by
    intro ts
    induction ts with
    | nil => intro vs ds p h; cases vs <;> cases ds <;> simp [DataW.TrodAll] at h ⊢
    | cons t ts ih =>
      intro vs ds p h
      obtain ⟨v, vs', d, ds', p1, q1, rfl, rfl, rfl, h1, h2⟩ := ChangeShapes.trodAll_cons h
      simp [ih h2]
  have hdl : ds.length = (ins A).length := by
    rw [hlen hA]
    have := congrArg List.length hus
    simpa using this
  have hw : (DataW.weightsEach P fn.params.toList ds).all (· ≤ reachBytes) = true := by
    have key : ∀ (ts ts' : List TypeId) (ds : List (DataW H)), ds.length = ts.length → DataW.weightsEach P (ts ++ ts') (ds ++ []) = DataW.weightsEach P ts ds := by
      intro ts
      induction ts with
      | nil =>
        intro ts' ds h
        cases ds with
        | nil => cases ts' <;> simp [DataW.weightsEach]
        | cons d ds => simp at h
      | cons t ts ih =>
        intro ts' ds h
        cases ds with
        | nil => simp at h
        | cons d ds =>
          simp only [List.cons_append, DataW.weightsEach]
          rw [ih ts' ds (by simpa using h)]
    rw [key _ _ ds (hlen hA)] at hsz
    exact hsz
  obtain ⟨x, hx, hwf⟩ := open_args hP hR hus hpl hA hw (r := .any) (b0 := base) (fun j t v h1 h2 => hval j t v (by simpa using h1) (by simpa using h2))
  obtain ⟨k, r, hk, hr⟩ := pure' x hwf
  have hc := (hg k).calls x r hk W args.toList [] (fun b => b < W.heap.size) hJ (by simp) (fun b hb => ⟨hb, by simp⟩) (hx.argR hAv) List.nodup_nil
  refine hc.mono fun e W' he => ?_
  obtain ⟨bs', cs, bl, rfl, hk', _, _, X', _, _, hres'⟩ := he
  have hb : Below W.heap.size W W' := ⟨hk'.os, hk'.tape, hk'.output, hk'.size, fun k h => hk'.block k h (by simp)⟩
  simp only [if_true] at hres'
  rw [hr] at hres'
  obtain ⟨c1, c2, b1, b2, rfl, rfl, ⟨rfl, rfl⟩, ⟨rfl, rfl⟩⟩ := hres'
  refine ⟨.bool true, rfl, ds, [], p ++ [], [], p, [], hW', ?_, ?_, ?_, hb.frame _, fun h => by cases h⟩
  · rw [List.append_nil, hfn ds hdl, hres]
    exact ChangeShapes.trodAll_mk1 (RowKit.shut_bool hbool _)
  · rw [List.append_nil, hfn ds hdl]
    exact trodAll_below hP hR hb hus hpl hA
  · rw [List.append_nil, hfn ds hdl, hvars]
    rfl
end
end Go.V
