/- V: loads, addresses, cuts, lengths. -/
import Derived.Test.YtgcahahklmfleaaDoorVSound5
set_option linter.unusedVariables false
set_option linter.unusedSimpArgs false
namespace Go.V
open Go.RowKit

theorem addr_add (b o n : Nat) : (⟨b, o, none⟩ : Addr).add n = ⟨b, o + n, none⟩ := by
  unfold Addr.add
  split
  · rename_i h; subst h; rfl
  · rfl

section
variable {P : Program} {tb : Tab} {w0 : Bs} {w : World} {N : Nat → Prop} {φ : Nat → Blk} {tm : List AV} {hp : Hp} {a : Act}

/-- A value of cells. -/
def valOf (t : Ty) (vs : List Value) : Value := if t.agg then .agg vs.toArray else vs.headD undef

theorem valOf_rep {X : Bool → Nat → Prop} {t : Ty} {cs : List AV} {vs : List Value} (h : RepL w X N φ cs vs) (hl : cs.length = t.size) : RepV w X N φ (wrapAgg t cs) (valOf t vs) := by
  refine wrapAgg_rep h hl _ ?_
  unfold valOf
  split
  · rfl
  · rename_i ha
    have h1 : t.size = 1 := by cases t <;> simp_all [Ty.agg, Ty.size]
    have := h.len
    match vs, this with
    | [u], _ => rfl
    | [], e => simp at e; omega
    | _ :: _ :: _, e => simp at e; omega

theorem run_loadVar {t : Nat} {u : Ty} {i : TypeInfo} {d : TypeDesc} {z : Value} (ht : TyFact P tb t u i d z) (b o : Nat) (vs : List Value) (hl : vs.length = u.size)
    (hc : ∀ j x, vs[j]? = some x → w.cell? ⟨b, o + j, none⟩ = some x) : (loadVar t ⟨b, o, none⟩).run P w = .ok (valOf u vs) w := by
  unfold loadVar
  rw [Sem.run_bind, ht.run_isAgg w, Result.andThen_ok]
  unfold valOf
  cases ha : u.agg with
  | true =>
    simp only [if_true, Sem.run_bind, ht.run_sizeOf w, Result.andThen_ok]
    rw [← hl, run_loadCells_list (P := P) w ⟨b, o, none⟩ vs (fun j v hj => by rw [addr_add]; exact hc j v hj)]
    rfl
  | false =>
    have h1 : u.size = 1 := by cases u <;> simp_all [Ty.agg, Ty.size]
    rw [h1] at hl
    match vs, hl with
    | [x], _ =>
      have := hc 0 x rfl
      simp only [Nat.add_zero] at this
      simp [this]

theorem run_loadAt {t : Nat} {u : Ty} {i : TypeInfo} {d : TypeDesc} {z : Value} (ht : TyFact P tb t u i d z) (b o : Nat) (vs : List Value) (hl : vs.length = u.size)
    (hc : ∀ j x, vs[j]? = some x → w.cell? ⟨b, o + j, none⟩ = some x) : (Instr.loadAt t (.pointer (some ⟨b, o, none⟩))).run P w = .ok (valOf u vs) w := by
  unfold Instr.loadAt Instr.sureAddr
  rw [Sem.run_bind]
  simp only [Sem.run_pure, Result.andThen_ok]
  exact run_loadVar ht b o vs hl hc

theorem own_cells {M : Nat → Prop} {te size : Nat} {v : Value} {n : Nat} {xs : List Value} {b : Nat} (h : ownsM w M te size v n xs) (hn : 0 < n) (hb : ∀ g, v.ownBlock = some g → b = g) :
    ∀ j u, xs[j]? = some u → w.cell? ⟨b, j, none⟩ = some u := by
  intro j u hj
  rcases h.2 with ⟨rfl, rfl⟩ | ⟨g, cap, cur, rfl, h1, h2, h3, h4, h5, h6⟩
  · exact absurd hn (by omega)
  · have := h.row.cells (g := g) rfl j u hj
    rw [addr_add, Nat.zero_add] at this
    rw [hb g rfl]
    exact this

theorem part_cells {b o off size : Nat} {xs d : List Value} {i n : Nat} (hd : ∀ j, j < n → xs[i * n + j]? = d[j]?) (hdl : d.length = n) (hc : ∀ j u, xs[j]? = some u → w.cell? ⟨b, o + j, none⟩ = some u) :
    ∀ j x, ((d.drop off).take size)[j]? = some x → w.cell? ⟨b, o + (i * n + off) + j, none⟩ = some x := by
  intro j x hj
  rw [List.getElem?_take] at hj
  split at hj
  · rw [List.getElem?_drop] at hj
    have hlt : off + j < n := by
      have := (List.getElem?_eq_some_iff.1 hj).1
      omega
    have := hc (i * n + (off + j)) x ((hd _ hlt).trans hj)
    rw [← this]
    congr 2
    omega
  · cases hj

theorem ld_own {X : Bool → Nat → Prop} {t : Nat} {u : Ty} {i : TypeInfo} {d : TypeDesc} {z : Value} (ht : TyFact P tb t u i d z) {B : Nat → Prop} {r i' off : Nat} {p : Bool} {e : Ty} {l : List e.den} {x : u.den}
    (hr : OwnOk w X N φ B r p e l) (hi : i' < (φ r).n) (hx : getAt u e (l.getD i' e.dflt) off = some x) :
    ∃ y, (Instr.loadAt t (.pointer (some ⟨(φ r).b, i' * (φ r).sz + off, none⟩))).run P w = .ok y w ∧ RepV w X N φ (wrapAgg u (inj p u x)) y := by
  obtain ⟨_, hsz, hn, hb, te, xs, ho, hl⟩ := hr
  rw [hn] at hi
  obtain ⟨ds, hds, hdj⟩ := hl.get (fun x d hh => hh.len) i' e.dflt hi
  obtain ⟨g1, g2⟩ := getAt_ok e hx hds
  refine ⟨_, ?_, valOf_rep (g1.inj (p := p)) (by have := (g1.inj (φ := φ) (N := N) (p := p)).len; rw [← this]; exact g1.len)⟩
  rw [hsz]
  have hc := own_cells ho (by omega) hb
  have := part_cells (o := 0) (off := off) (size := u.size) hdj hds.len (by simpa using hc)
  rw [Nat.zero_add] at this
  exact run_loadAt ht _ _ _ g1.len this

theorem ld_ok (h : Ok w0 N φ tm hp a w) {t : Nat} {u : Ty} {i : TypeInfo} {d : TypeDesc} {z : Value} (ht : TyFact P tb t u i d z) {av v : AV} {p : Value}
    (hv : ld hp u av some = some v) (hp' : RepV w (XX w0 w φ hp) N φ av p) : ∃ x, (Instr.loadAt t p).run P w = .ok x w ∧ RepV w (XX w0 w φ hp) N φ v x := by
  unfold ld at hv
  split at hv
  · rename_i r i' off
    obtain ⟨hN, hi, he⟩ := hp'
    subst he
    have hr := h.rows r
    split at hv
    · rename_i cs hrow
      rw [hrow] at hr
      obtain ⟨_, hB, hn, vs, te, hh, hcs⟩ := hr
      obtain ⟨hle, hv⟩ := fin_bif' hv
      cases hv
      have hle := Nat.le_of_ble_eq_true hle
      rw [hn] at hi
      have hi0 : i' = 0 := by omega
      subst hi0
      have hlen := hcs.len
      refine ⟨valOf u ((vs.toList.drop off).take u.size), ?_, valOf_rep ((hcs.drop off).take u.size) (by rw [List.length_take, List.length_drop]; omega)⟩
      rw [Nat.zero_mul, Nat.zero_add]
      refine run_loadAt ht _ _ _ (by rw [List.length_take, List.length_drop]; omega) (fun j x hj => ?_)
      rw [cell_of_row w _ _ vs te (0, 0) hh]
      rw [List.getElem?_take] at hj
      split at hj
      · rw [List.getElem?_drop] at hj
        simpa using hj
      · cases hj
    · rename_i p e l hrow
      rw [hrow] at hr
      split at hv
      · rename_i x hx
        cases hv
        exact ld_own ht hr hi hx
      · cases hv
    · rename_i p e l hrow
      rw [hrow] at hr
      split at hv
      · rename_i x hx
        cases hv
        exact ld_own ht hr.1 hi hx
      · cases hv
    · cases hv
  · rename_i p e l i' off
    obtain ⟨hi, b, o, xs, hv', hb, hl, hc⟩ := hp'
    subst hv'
    split at hv
    · rename_i x hx
      cases hv
      obtain ⟨ds, hds, hdj⟩ := hl.get (fun x d hh => hh.len) i' e.dflt hi
      obtain ⟨g1, g2⟩ := getAt_ok e hx hds
      refine ⟨_, ?_, valOf_rep (g1.inj (p := p)) (by have := (g1.inj (φ := φ) (N := N) (p := p)).len; rw [← this]; exact g1.len)⟩
      exact run_loadAt ht _ _ _ g1.len (part_cells (off := off) (size := u.size) hdj hds.len hc)
    · cases hv
  · cases hv

theorem addOff_ok {X : Bool → Nat → Prop} {av v : AV} {p : Value} {n : Nat} (hv : addOff av n some = some v) (hp' : RepV w X N φ av p) :
    ∃ b o, p = .pointer (some ⟨b, o, none⟩) ∧ RepV w X N φ v (.pointer (some ⟨b, o + n, none⟩)) := by
  unfold addOff at hv
  split at hv
  · rename_i r i off
    cases hv
    obtain ⟨h1, h2, h3⟩ := hp'
    exact ⟨_, _, h3, h1, h2, by rw [Nat.add_assoc]⟩
  · rename_i q e l i off
    cases hv
    obtain ⟨h1, b, o, xs, h2, h3, h4, h5⟩ := hp'
    exact ⟨_, _, h2, h1, b, o, xs, by rw [Nat.add_assoc, Nat.add_assoc], h3, h4, h5⟩
  · cases hv

theorem run_fieldAt (hP : tabCheck P tb = true) {s f n : Nat} (hn : offOf tb s f = some n) (b o : Nat) :
    (Instr.fieldAt s (.pointer (some ⟨b, o, none⟩)) f).run P w = .ok (.pointer (some ⟨b, o + n, none⟩)) w := by
  unfold offOf at hn
  split at hn
  · rename_i offs ho
    split at hn
    · rename_i p hp'
      cases hn
      obtain ⟨fs, hu, _, hall⟩ := offFact hP ho
      obtain ⟨h0, fd, i, hf, hoff, hi, hsz⟩ := hall f p hp'
      have hz : (sizeOf fd.type).run P w = .ok p.2 w := by simp [sizeOf, typeInfo, hi, hsz]
      have hne : ¬ p.2 = 0 := by omega
      unfold Instr.fieldAt
      simp only [Sem.run_bind, run_underlying hu w, Result.andThen_ok, hf, Instr.sureAddr, Sem.run_pure, fieldPlace, hz, if_neg hne, addr_add, hoff]
    · cases hn
  · cases hn

theorem slice_read {X : Bool → Nat → Prop} {p : Bool} {e : Ty} {l : List e.den} {v : Value} (h : Rd w (X p) (.slice e) l [v]) :
    ∃ a c, v = .slice a l.length c ∧ l.length ≤ c ∧ ∃ xs, RdL (Rd w (X p) e) l xs ∧ (l ≠ [] → ∃ b o, a = some ⟨b, o, none⟩ ∧ X p b ∧ ∀ j u, xs[j]? = some u → w.cell? ⟨b, o + j, none⟩ = some u) := by
  obtain ⟨a, n, c, xs, hc, hn, hle, hl, hr⟩ := h
  cases hc
  subst hn
  exact ⟨a, c, rfl, hle, xs, hl, hr⟩

theorem own_slice {M : Nat → Prop} {te size : Nat} {v : Value} {n : Nat} {xs : List Value} (h : ownsM w M te size v n xs) : ∃ a c, v = .slice a n c ∧ n ≤ c ∧ (0 < n → ∃ g, a = some ⟨g, 0, none⟩ ∧ v.ownBlock = some g) := by
  rcases h.2 with ⟨rfl, rfl⟩ | ⟨g, cap, cur, rfl, h1, h2, h3, h4, h5, h6⟩
  · exact ⟨none, 0, rfl, Nat.le_refl _, fun h => absurd h (by omega)⟩
  · exact ⟨_, cap, rfl, h3, fun _ => ⟨g, rfl, rfl⟩⟩

theorem TyFact.slice {t : Nat} {e : Ty} {i : TypeInfo} {d : TypeDesc} {z : Value} (hP : tabCheck P tb = true) (ht : TyFact P tb t (.slice e) i d z) :
    ∃ te, P.underlying t = some (.slice te) ∧ look tb.ty te = some e ∧ 0 < e.size ∧ plain e = true ∧ ∃ i' d' z', TyFact P tb te e i' d' z' := by
  have hk := ht.kind
  have hu := ht.under
  cases d <;> simp [kindCheck] at hk
  rename_i te
  obtain ⟨⟨h1, h2⟩, h3⟩ := hk
  exact ⟨te, hu, h1, h2, h3, tyFact hP h1⟩

theorem elemFact (hP : tabCheck P tb = true) {t : Nat} {e : Ty} (h : elemTy tb t = some e) :
    ∃ te, P.underlying t = some (.slice te) ∧ 0 < e.size ∧ plain e = true ∧ ∃ i' d' z', TyFact P tb te e i' d' z' := by
  unfold elemTy at h
  split at h
  · rename_i e' hl
    cases h
    obtain ⟨i, d, z, ht⟩ := tyFact hP hl
    obtain ⟨te, h1, _, h2, h3, h4⟩ := ht.slice hP
    exact ⟨te, h1, h2, h3, h4⟩
  · cases h

theorem run_indexAt {t te : TypeId} {i : TypeInfo} (hu : P.underlying t = some (.slice te)) (hi : P.info? te = some i) (b o n len c : Nat) (k : IntKind) (hn : n < len) :
    (Instr.indexAt t (.slice (some ⟨b, o, none⟩) len c) (.int k n)).run P w = .ok (.pointer (some ⟨b, o + n * i.size, none⟩)) w := by
  unfold Instr.indexAt
  have h1 : (0 : Int) ≤ (n : Int) ∧ (n : Int) < (len : Int) := by omega
  simp [asIntOf, run_underlying hu, h1, hn, sizeOf, typeInfo, hi, addr_add]

theorem index_own {X : Bool → Nat → Prop} {t te : TypeId} {k : IntKind} (hu : P.underlying t = some (.slice te)) {B : Nat → Prop} {r : Nat} {n : Int} {p : Bool} {e : Ty} {l : List e.den} {i : TypeInfo} {d : TypeDesc} {z y : Value} (htf : TyFact P tb te e i d z)
    (hr : OwnOk w X N φ B r p e l) (h2 : 0 ≤ n) (h3 : n < (l.length : Int)) (hx : RepV w X N φ (.ref r) y) :
    ∃ q, (Instr.indexAt t y (.int k n)).run P w = .ok q w ∧ RepV w X N φ (.ptr r n.toNat 0) q := by
  obtain ⟨hN, he', _⟩ := hx
  obtain ⟨_, hs, hn, hb, te', xs, ho, hl⟩ := hr
  obtain ⟨m, rfl⟩ := Int.eq_ofNat_of_zero_le h2
  obtain ⟨ad, c, hsl, hc, hg⟩ := own_slice ho
  obtain ⟨g, rfl, hg2⟩ := hg (by omega)
  rw [hsl] at he'
  subst he'
  refine ⟨_, run_indexAt hu htf.info g 0 m _ c _ (by omega), hN, by rw [hn]; simp; omega, ?_⟩
  rw [hb g (by rw [hsl]; rfl), hs, htf.size]
  simp

theorem indexAddr_ok (h : Ok w0 N φ tm hp a w) (hP : tabCheck P tb = true) {t : Nat} {x i v : AV} {p q : Value} (hv : indexAddr tb hp t x i some = some v)
    (hx : RepV w (XX w0 w φ hp) N φ x p) (hi : RepV w (XX w0 w φ hp) N φ i q) : ∃ y, (Instr.indexAt t p q).run P w = .ok y w ∧ RepV w (XX w0 w φ hp) N φ v y := by
  unfold indexAddr at hv
  split at hv
  · rename_i e k n he
    obtain ⟨te, hu, hsz, hpl, ti, td, tz, htf⟩ := elemFact hP he
    cases hi
    split at hv
    · rename_i r
      have hr := h.rows r
      split at hv
      · rename_i pp t' l hrow
        rw [hrow] at hr
        obtain ⟨h1, hw1⟩ := fin_bif' hv
        obtain ⟨h2, hw2⟩ := fin_bif' hw1
        obtain ⟨h3, hw3⟩ := fin_bif' hw2
        have h1 := of_decide_eq_true h1
        subst h1
        cases hw3
        exact index_own hu htf hr (of_decide_eq_true h2) (of_decide_eq_true h3) hx
      · rename_i pp t' l hrow
        rw [hrow] at hr
        obtain ⟨h1, hw1⟩ := fin_bif' hv
        obtain ⟨h2, hw2⟩ := fin_bif' hw1
        obtain ⟨h3, hw3⟩ := fin_bif' hw2
        have h1 := of_decide_eq_true h1
        subst h1
        cases hw3
        exact index_own hu htf hr.1 (of_decide_eq_true h2) (of_decide_eq_true h3) hx
      · cases hv
    · rename_i pp t' l
      obtain ⟨h1, hw1⟩ := fin_bif' hv
      obtain ⟨h2, hw2⟩ := fin_bif' hw1
      obtain ⟨h3, hw3⟩ := fin_bif' hw2
      have h1 := of_decide_eq_true h1
      have h2 := of_decide_eq_true h2
      have h3 := of_decide_eq_true h3
      subst h1
      cases hw3
      obtain ⟨ad, c, hsl, hc, xs, hl, hne⟩ := slice_read (X := XX w0 w φ hp) hx
      obtain ⟨m, rfl⟩ := Int.eq_ofNat_of_zero_le h2
      obtain ⟨b, o, rfl, hX, hcell⟩ := hne (by intro q; subst q; simp at h3; omega)
      subst hsl
      refine ⟨_, run_indexAt hu htf.info b o m _ c _ (by omega), by simp; omega, b, o, xs, ?_, hX, hl, hcell⟩
      rw [htf.size]
      simp
    · cases hv
  · cases hv
end
end Go.V
