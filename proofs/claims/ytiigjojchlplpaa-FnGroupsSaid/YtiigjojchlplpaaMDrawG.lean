/- M: drawn places. -/
import Derived.Test.YtiigjojchlplpaaMDraw
import Derived.Test.YtiigjojchlplpaaMGroup
import Derived.Test.YtiigjojchlplpaaMSealR
set_option linter.unusedVariables false
set_option linter.unusedSimpArgs false
namespace Go.Proofs.Ytiigjojchlplpaa.G
open Go.V
def GoodP (o : Option (CurD × PlaceL × Unit)) : Prop := ∃ (c : CurD) (l : PlaceL), o = some (c, (l, ())) ∧ CI c ∧ l.length ≤ 1000
theorem l9_4 {k : Nat} (hk : 2 ^ 50 ≤ k) {L2 : spec_l9Places.T2} {b x : Int} {recs : RecL} {m : Nat} (hr : recs.length ≤ 100) (hm : m ≤ 900)
    (H : ∀ (sg : Int) (c : CurD) (o : PlaceL), CI c → o.length ≤ m → GoodP (L2 sg b (w64 (x - 1)) c.1 c.2.1 c.2.2.1 o)) :
    ∀ (d n : Nat) (sg j : Int) (c : CurD) (o : PlaceL), j + (d : Int) = (recs.length : Int) → 0 ≤ j → d < n → CI c → o.length + d + 1 ≤ m → GoodP (spec_l9Places.l4 k L2 n sg b x j c.1 c.2.1 c.2.2.1 o recs) := by
  intro d
  induction d with
  | zero =>
    intro n sg j c o h1 h2 hn hc ho
    obtain ⟨n, rfl⟩ : ∃ q, n = q + 1 := ⟨n - 1, by omega⟩
    obtain ⟨c1, y, e1, hc1, _, _⟩ := l1Below_ok k hc (n := 8) (by omega) (by omega)
    have e1' : spec_l1Below.f k (c.1, (c.2.1, (c.2.2.1, ()))) 8 = some (c1, (y, ())) := e1
    obtain ⟨c2, z, e2, hc2⟩ := l1Once_ok k hc1 (n := 4) (by omega) (by omega)
    simp only [spec_l9Places.l4, spec_l9Places.b4]
    rw [decF (show ¬ j < (recs.length : Int) by omega), cond_false, specSeal_eq hk (by omega), Option.bind_some, e1', Option.bind_some]
    simp only []
    have hL : ∀ (sg : Int) (p : Ty.den TPlace), GoodP (L2 sg b (w64 (x - 1)) c2.1 c2.2.1 c2.2.2.1 (o ++ [p])) := fun sg p => H sg c2 (o ++ [p]) hc2 (by rw [len_snoc]; omega)
    cases y == 0 with
    | true => exact H sg c1 o hc1 (by omega)
    | false =>
      rw [cond_false]
      cases y == 1 with
      | true =>
        rw [cond_true, rm_ok (by omega) (by decide), e2, Option.bind_some]
        cases z
        · exact hL _ _
        · exact hL _ _
      | false =>
        rw [cond_false, rm_ok (by omega) (by decide), e2, Option.bind_some]
        cases z
        · exact hL _ _
        · exact hL _ _
  | succ d ih =>
    intro n sg j c o h1 h2 hn hc ho
    obtain ⟨n, rfl⟩ : ∃ q, n = q + 1 := ⟨n - 1, by omega⟩
    simp only [spec_l9Places.l4, spec_l9Places.b4]
    rw [decT (show j < (recs.length : Int) by omega), cond_true, inb_eq h2 (by omega), rm_ok (by omega) (by decide), w64_eq (n := j + 1) (by omega) (by omega)]
    exact ih n sg (j + 1) c _ (by omega) (by omega) (by omega) hc (by rw [len_snoc]; omega)
theorem l9_3 {k : Nat} (hk : 2 ^ 50 ≤ k) {L2 : spec_l9Places.T2} {b x : Int} {m : Nat} (hm : m ≤ 900)
    (H : ∀ (sg : Int) (c : CurD) (o : PlaceL), CI c → o.length ≤ m → GoodP (L2 sg b (w64 (x - 1)) c.1 c.2.1 c.2.2.1 o)) :
    ∀ (d n : Nat) (sg : Int) (c : CurD) (o : PlaceL) (recs : RecL), d < n → CI c → recs.length + d ≤ 4 → o.length + 5 ≤ m → GoodP (spec_l9Places.l3 k L2 n sg b x (d : Int) c.1 c.2.1 c.2.2.1 o recs) := by
  intro d
  induction d with
  | zero =>
    intro n sg c o recs hn hc hr ho
    obtain ⟨n, rfl⟩ : ∃ q, n = q + 1 := ⟨n - 1, by omega⟩
    simp only [spec_l9Places.l3, spec_l9Places.b3]
    rw [decF (show ¬ ((0 : Nat) : Int) > 0 by omega), cond_false]
    exact l9_4 hk (by omega) hm H recs.length k sg 0 c o (by omega) (by omega) (by omega) hc (by omega)
  | succ d ih =>
    intro n sg c o recs hn hc hr ho
    obtain ⟨n, rfl⟩ : ∃ q, n = q + 1 := ⟨n - 1, by omega⟩
    obtain ⟨c1, y1, e1, hc1⟩ := l5Key_ok k hc
    have e1' : spec_l5Key.f k (c.1, (c.2.1, (c.2.2.1, ()))) = some (c1, (y1, ())) := e1
    obtain ⟨c2, y2, e2, hc2⟩ := l1Text_ok hk hc1 (m := 4) (by omega) (by omega)
    obtain ⟨c3, y3, e3, hc3⟩ := l1Once_ok k hc2 (n := 3) (by omega) (by omega)
    obtain ⟨c4, y4, e4, hc4⟩ := l5Key_ok k hc3
    have hw : w64 (((d + 1 : Nat) : Int) - 1) = (d : Int) := by rw [w64_eq (by omega) (by omega)]; omega
    simp only [spec_l9Places.l3, spec_l9Places.b3]
    rw [decT (show ((d + 1 : Nat) : Int) > 0 by omega), cond_true, e1', Option.bind_some]
    simp only []
    rw [e2, Option.bind_some]
    simp only []
    rw [e3, Option.bind_some, hw]
    cases y3 with
    | true =>
      simp only [cond_true]
      rw [e4, Option.bind_some, rm_ok (by omega) (by decide)]
      exact ih n sg c4 o _ (by omega) hc4 (by rw [len_snoc]; omega) ho
    | false =>
      simp only [cond_false]
      rw [rm_ok (by omega) (by decide)]
      exact ih n sg c3 o _ (by omega) hc3 (by rw [len_snoc]; omega) ho
theorem l9_2 {k : Nat} (hk : 2 ^ 50 ≤ k) : ∀ (d n : Nat) (sg b : Int) (c : CurD) (o : PlaceL), d < n → CI c → d ≤ 10 → o.length + 10 * d ≤ 800 → GoodP (spec_l9Places.l2 k n sg b (d : Int) c.1 c.2.1 c.2.2.1 o) := by
  intro d
  induction d with
  | zero =>
    intro n sg b c o hn hc hd ho
    obtain ⟨n, rfl⟩ : ∃ q, n = q + 1 := ⟨n - 1, by omega⟩
    simp only [spec_l9Places.l2, spec_l9Places.b2]
    rw [decF (show ¬ ((0 : Nat) : Int) > 0 by omega), cond_false]
    exact ⟨c, o, rfl, hc, by omega⟩
  | succ d ih =>
    intro n sg b c o hn hc hd ho
    obtain ⟨n, rfl⟩ : ∃ q, n = q + 1 := ⟨n - 1, by omega⟩
    obtain ⟨c1, y1, e1, hc1, _, _⟩ := l1Below_ok k hc (n := 2) (by omega) (by omega)
    have e1' : spec_l1Below.f k (c.1, (c.2.1, (c.2.2.1, ()))) 2 = some (c1, (y1, ())) := e1
    obtain ⟨c2, y2, e2, hc2, hy0, hy1⟩ := l1Below_ok k hc1 (n := 4) (by omega) (by omega)
    simp only [spec_l9Places.l2, spec_l9Places.b2]
    rw [decT (show ((d + 1 : Nat) : Int) > 0 by omega), cond_true, e1', Option.bind_some]
    simp only []
    rw [e2, Option.bind_some]
    simp only []
    have h3 := l9_3 hk (L2 := spec_l9Places.l2 k n) (b := w64 (w64 (b + 1) + y1)) (x := ((d + 1 : Nat) : Int)) (m := o.length + 5) (by omega) (fun sg c o' hc' ho' => by
      rw [show w64 (((d + 1 : Nat) : Int) - 1) = (d : Int) by rw [w64_eq (by omega) (by omega)]; omega]
      exact ih n sg _ c o' (by omega) hc' (by omega) (by omega)) y2.toNat k sg c2 o [] (by omega) hc2 (by simp; omega) (by omega)
    rw [show ((y2.toNat : Nat) : Int) = y2 by omega] at h3
    exact h3
theorem l9_2' {k : Nat} (hk : 2 ^ 50 ≤ k) (sg b : Int) {x : Int} (h0 : 0 ≤ x) (h1 : x < 5) (c : CurD) {o : PlaceL} (hc : CI c) (ho : o.length ≤ 100) : GoodP (spec_l9Places.l2 k k sg b x c.1 c.2.1 c.2.2.1 o) := by
  have := l9_2 hk x.toNat k sg b c o (by omega) hc (by omega) (by omega)
  rw [show ((x.toNat : Nat) : Int) = x by omega] at this
  exact this
theorem l9_1 {k : Nat} (hk : 2 ^ 50 ≤ k) {b : Int} {recs : RecL} (hr : recs.length ≤ 10) :
    ∀ (d n : Nat) (sg j : Int) (c : CurD) (o : PlaceL), j + (d : Int) = (recs.length : Int) → 0 ≤ j → d < n → CI c → o.length + d ≤ 50 → GoodP (spec_l9Places.l1 k n sg b j c.1 c.2.1 c.2.2.1 o recs) := by
  intro d
  induction d with
  | zero =>
    intro n sg j c o h1 h2 hn hc ho
    obtain ⟨n, rfl⟩ : ∃ q, n = q + 1 := ⟨n - 1, by omega⟩
    obtain ⟨c1, y, e1, hc1⟩ := l1Once_ok k hc (n := 8) (by omega) (by omega)
    have e1' : spec_l1Once.f k (c.1, (c.2.1, (c.2.2.1, ()))) 8 = some (c1, (y, ())) := e1
    obtain ⟨c2, z, e2, hc2, hz0, hz1⟩ := l1Below_ok k hc1 (n := 5) (by omega) (by omega)
    simp only [spec_l9Places.l1, spec_l9Places.b1]
    rw [decF (show ¬ j < (recs.length : Int) by omega), cond_false, e1', Option.bind_some]
    cases y with
    | false =>
      simp only [Bool.not_false, cond_true]
      rw [specSeal_eq hk (by omega), Option.bind_some, rm_ok (by omega) (by decide), e2, Option.bind_some]
      exact l9_2' hk 2 b hz0 hz1 c2 hc2 (by rw [len_snoc]; omega)
    | true =>
      simp only [Bool.not_true, cond_false]
      rw [e2, Option.bind_some]
      exact l9_2' hk 2 b hz0 hz1 c2 hc2 (by omega)
  | succ d ih =>
    intro n sg j c o h1 h2 hn hc ho
    obtain ⟨n, rfl⟩ : ∃ q, n = q + 1 := ⟨n - 1, by omega⟩
    simp only [spec_l9Places.l1, spec_l9Places.b1]
    rw [decT (show j < (recs.length : Int) by omega), cond_true, inb_eq h2 (by omega), rm_ok (by omega) (by decide), w64_eq (n := j + 1) (by omega) (by omega)]
    exact ih n sg (j + 1) c _ (by omega) (by omega) (by omega) hc (by rw [len_snoc]; omega)
theorem l9_0 {k : Nat} (hk : 2 ^ 50 ≤ k) : ∀ (d n : Nat) (sg b : Int) (c : CurD) (recs : RecL), d < n → CI c → recs.length + d ≤ 10 → GoodP (spec_l9Places.l0 k n sg b (d : Int) c.1 c.2.1 c.2.2.1 [] recs) := by
  intro d
  induction d with
  | zero =>
    intro n sg b c recs hn hc hr
    obtain ⟨n, rfl⟩ : ∃ q, n = q + 1 := ⟨n - 1, by omega⟩
    simp only [spec_l9Places.l0, spec_l9Places.b0]
    rw [decF (show ¬ ((0 : Nat) : Int) > 0 by omega), cond_false]
    exact l9_1 hk (by omega) recs.length k sg 0 c [] (by omega) (by omega) (by omega) hc (by simp; omega)
  | succ d ih =>
    intro n sg b c recs hn hc hr
    obtain ⟨n, rfl⟩ : ∃ q, n = q + 1 := ⟨n - 1, by omega⟩
    obtain ⟨c1, y1, e1, hc1⟩ := l5Key_ok k hc
    have e1' : spec_l5Key.f k (c.1, (c.2.1, (c.2.2.1, ()))) = some (c1, (y1, ())) := e1
    obtain ⟨c2, y2, e2, hc2⟩ := l1Text_ok hk hc1 (m := 4) (by omega) (by omega)
    have hw : w64 (((d + 1 : Nat) : Int) - 1) = (d : Int) := by rw [w64_eq (by omega) (by omega)]; omega
    simp only [spec_l9Places.l0, spec_l9Places.b0]
    rw [decT (show ((d + 1 : Nat) : Int) > 0 by omega), cond_true, e1', Option.bind_some]
    simp only []
    rw [e2, Option.bind_some, rm_ok (by omega) (by decide), hw]
    exact ih n sg _ c2 _ (by omega) hc2 (by rw [len_snoc]; omega)
theorem l9Places_ok {k : Nat} (hk : 2 ^ 50 ≤ k) {c : CurD} (hc : CI c) : GoodP (spec_l9Places.f k c) := by
  unfold spec_l9Places.f spec_l9Places.t
  obtain ⟨c1, y1, e1, hc1⟩ := l1Once_ok k hc (n := 3) (by omega) (by omega)
  rw [e1, Option.bind_some]
  cases y1 with
  | true =>
    simp only [cond_true]
    obtain ⟨c2, z, e2, hc2, hz0, hz1⟩ := l1Below_ok k hc1 (n := 3) (by omega) (by omega)
    rw [e2, Option.bind_some]
    have := l9_0 hk z.toNat k 1 0 c2 [] (by omega) hc2 (by simp; omega)
    rw [show ((z.toNat : Nat) : Int) = z by omega] at this
    exact this
  | false =>
    simp only [cond_false]
    obtain ⟨c2, z, e2, hc2, hz0, hz1⟩ := l1Below_ok k hc1 (n := 5) (by omega) (by omega)
    rw [e2, Option.bind_some]
    exact l9_2' hk 1 0 hz0 hz1 c2 hc2 (by simp)
theorem drawRegroup_ok {k : Nat} (hk : 2 ^ 50 ≤ k) {code : List Int} (hl : code.length ≤ 1048576) : ∃ (g : Ty.den TGroup) (l : PlaceL), spec_DrawRegroup.f k code = some (g, (l, ())) ∧ l.length ≤ 1000 := by
  obtain ⟨c, e, hc⟩ := l1New_ok hk hl
  unfold spec_DrawRegroup.f spec_DrawRegroup.t
  rw [e, Option.bind_some]
  simp only []
  obtain ⟨c1, y1, e1, hc1⟩ := l1Once_ok k hc (n := 4) (by omega) (by omega)
  rw [e1, Option.bind_some]
  cases y1 with
  | false =>
    simp only [cond_false]
    obtain ⟨c2, l, e2, _, h2⟩ := l9Places_ok hk hc1
    rw [e2, Option.bind_some]
    exact ⟨_, _, rfl, h2⟩
  | true =>
    simp only [cond_true]
    have hg : ∃ (c2 : CurD) (g : Ty.den TGroup), spec_l9Group.f k c1 = some (c2, (g, ())) ∧ CI c2 := by
      unfold spec_l9Group.f spec_l9Group.t
      obtain ⟨c2, l, e2, hc2, h2⟩ := l9Places_ok hk hc1
      rw [e2, Option.bind_some]
      simp only []
      rw [specRegroup_eq hk _ (by omega) (by simp), Option.bind_some]
      obtain ⟨c3, y3, e3, hc3⟩ := l1Once_ok k hc2 (n := 10) (by omega) (by omega)
      rw [e3, Option.bind_some]
      cases y3 with
      | false => exact ⟨_, _, rfl, hc3⟩
      | true =>
        simp only [cond_true]
        obtain ⟨c4, z, e4, hc4, _, _⟩ := l1Below_ok k hc3 (n := 3) (by omega) (by omega)
        rw [e4, Option.bind_some]
        exact ⟨_, _, rfl, hc4⟩
    obtain ⟨c2, g, e2, hc2⟩ := hg
    rw [e2, Option.bind_some]
    simp only []
    obtain ⟨c3, l, e3, _, h3⟩ := l9Places_ok hk hc2
    rw [e3, Option.bind_some]
    exact ⟨_, _, rfl, h3⟩
end Go.Proofs.Ytiigjojchlplpaa.G
