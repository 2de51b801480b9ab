/- M: Ship: what it answers, in both readings. -/
import Derived.Test.YtgcahahklmfleaaGreatDoorMStore
import Derived.Test.YtgcahahklmfleaaGreatDoorMHas
import Derived.Test.YtgcahahklmfleaaGreatDoorMPre
set_option linter.unusedVariables false
set_option linter.unusedSimpArgs false
namespace Go.Proofs.YtgcahahklmfleaaGreatDoor.G
open Go.V
abbrev BitL := List (Ty.den TBit)
noncomputable def bitM (d : Ty.den TDisk) (f : PieceL) (id : Int) : Ty.den TBit :=
  bif preB (textM d (namedM segB id)).1 (hasM f id) then (id, (((hasM f id).size : Int), (ByteArray.extract (textM d (namedM segB id)).1 (hasM f id).size (textM d (namedM segB id)).1.size, ()))) else (id, (0, ((textM d (namedM segB id)).1, ())))
noncomputable def shipM (st : Ty.den TStore) (d : Ty.den TDisk) (f : PieceL) : Ty.den TParcel :=
  bif !storeM st d then (0, ([], ())) else (st.1.1, (st.1.2.1.map (bitM d f), ()))
theorem store_len {st : Ty.den TStore} {d : Ty.den TDisk} (h : storeM st d = true) : st.1.2.1.length ≤ 60 := by
  unfold storeM liveM at h
  simp only [Bool.and_eq_true, decide_eq_true_eq] at h
  omega
theorem specShip_eq {k : Nat} (hk : 2 ^ 50 ≤ k) {st : Ty.den TStore} {d : Ty.den TDisk} {f : Ty.den TFollower} (hd : DSz d) (hf : f.2.1.length ≤ 1099511627775) (hp : ∀ p ∈ f.2.1, p.2.1.size ≤ 1073741824) : spec_Ship.f k st d f = some (shipM st d f.2.1, ()) := by
  have := hd.l; have := hd.u; have := hd.n
  unfold spec_Ship.f spec_Ship.t shipM
  rw [specStore_eq hk hd, Option.bind_some]
  cases c : storeM st d with
  | false => rfl
  | true =>
    have hv := store_len c
    rw [Bool.not_true, cond_false, cond_false]
    refine forL0 (L := fun n i s => spec_Ship.l0 k n i st.1.1 st.1.2.1 st.2.1 st.2.2.1 st.2.2.2.1 st.2.2.2.2.1 d.1 d.2.1 d.2.2.1 d.2.2.2.1 f.1 f.2.1 [] 0 s st.1.1) (R := fun r s => some ((st.1.1, (s ++ r.map (bitM d f.2.1), ())), ())) (Ty.dflt (.int .i64)) st.1.2.1 (fun i s => (s.length : Int) = i) (fun n s hs => ?_) (fun n i s x rest h0 h1 hx hr hs ih => ?_) (n := k) (s := []) (by omega) rfl
    · simp (disch := omega) only [spec_Ship.l0, spec_Ship.b0, decF, cond_false, List.map_nil, List.append_nil]
    · have ih := ih (s ++ [bitM d f.2.1 x]) (by rw [len_snoc]; omega)
      have hz := textM_size d (namedM segB x)
      have ht := specText_eq hk (d := d) (by omega) (by omega) (by omega) (namedM segB x)
      have hh := specHas_eq hk f x hf
      have hm := hasM_size (id := x) hp
      have ha : s ++ [bitM d f.2.1 x] ++ rest.map (bitM d f.2.1) = s ++ (x :: rest).map (bitM d f.2.1) := by rw [List.append_assoc]; rfl
      rw [ha] at ih
      simp (disch := first | omega | decide) only [spec_Ship.l0, spec_Ship.b0, decT h1, cond_true, inb_eq, hx, specSegName_eq hk, Option.bind_some, ht, hh, rm_ok, w64_eq, toNat_ofNat, ext_all]
      rw [inc_eq (i := 0) (n := ((textM d (namedM segB x)).1.size : Int)) (by omega) (by omega)]
      by_cases q : (hasM f.2.1 x).size ≤ (textM d (namedM segB x)).1.size
      · rw [decT (show ((hasM f.2.1 x).size : Int) ≤ ((textM d (namedM segB x)).1.size : Int) by omega), cond_true, inc_eq (by omega) (by omega), inc_eq (by omega) (by omega)]
        cases e : seq (ByteArray.extract (textM d (namedM segB x)).1 0 (hasM f.2.1 x).size) (hasM f.2.1 x) with
        | true =>
          rw [cond_true]
          have hb : bitM d f.2.1 x = (x, (((hasM f.2.1 x).size : Int), (ByteArray.extract (textM d (namedM segB x)).1 (hasM f.2.1 x).size (textM d (namedM segB x)).1.size, ()))) := by
            unfold bitM preB
            rw [e, decT q]
            rfl
          rw [hb] at ih
          exact ih
        | false =>
          rw [cond_false]
          have hb : bitM d f.2.1 x = (x, (0, ((textM d (namedM segB x)).1, ()))) := by
            unfold bitM preB
            rw [e, Bool.and_false]
            rfl
          rw [hb] at ih
          exact ih
      · rw [decF (show ¬ ((hasM f.2.1 x).size : Int) ≤ ((textM d (namedM segB x)).1.size : Int) by omega), cond_false]
        have hb : bitM d f.2.1 x = (x, (0, ((textM d (namedM segB x)).1, ()))) := by
          unfold bitM preB
          rw [decF q]
          rfl
        rw [hb] at ih
        exact ih
theorem implShip_eq {k : Nat} (hk : 2 ^ 50 ≤ k) {st : Ty.den TStore} {d : Ty.den TDisk} {f : Ty.den TFollower} (hd : DSz d) (hw1 : st.1.2.1.length ≤ 1048576) (hw : st.2.1.length ≤ 1048576) (hf : f.2.1.length ≤ 1099511627775) (hp : ∀ p ∈ f.2.1, p.2.1.size ≤ 1073741824) : impl_Ship.f k st d f = some (shipM st d f.2.1, ()) := by
  have := hd.l; have := hd.u; have := hd.n
  unfold impl_Ship.f impl_Ship.t shipM
  rw [implStore_eq hk hd (by omega) (by omega), Option.bind_some]
  cases c : storeM st d with
  | false => rfl
  | true =>
    have hv := store_len c
    rw [Bool.not_true, cond_false, cond_false]
    refine forL0 (L := fun n i s => impl_Ship.l0 k n st.1.2.1 st.1.2.1.length i d.1 d.2.1 d.2.2.1 d.2.2.2.1 f.1 f.2.1 [] 0 s st.1.1) (R := fun r s => some ((st.1.1, (s ++ r.map (bitM d f.2.1), ())), ())) (Ty.dflt (.int .i64)) st.1.2.1 (fun i s => (s.length : Int) = i) (fun n s hs => ?_) (fun n i s x rest h0 h1 hx hr hs ih => ?_) (n := k) (s := []) (by omega) rfl
    · simp (disch := omega) only [impl_Ship.l0, impl_Ship.b0, decF, cond_false, List.map_nil, List.append_nil]
    · have ih := ih (s ++ [bitM d f.2.1 x]) (by rw [len_snoc]; omega)
      have hz := textM_size d (namedM segB x)
      have ht := implText_eq hk (d := d) (by omega) (by omega) (by omega) (namedM segB x)
      have hh := implHas_eq hk f x hf
      have hm := hasM_size (id := x) hp
      have hpre : lib_HasPrefix.f k (textM d (namedM segB x)).1 (hasM f.2.1 x) = some (preB (textM d (namedM segB x)).1 (hasM f.2.1 x), ()) := by
        unfold lib_HasPrefix.f
        rw [preB_eq]
      have ha : s ++ [bitM d f.2.1 x] ++ rest.map (bitM d f.2.1) = s ++ (x :: rest).map (bitM d f.2.1) := by rw [List.append_assoc]; rfl
      rw [ha] at ih
      simp (disch := first | omega | decide) only [impl_Ship.l0, impl_Ship.b0, decT h1, cond_true, inb_eq, hx, implSegName_eq k, Option.bind_some, ht, hh, hpre, rm_ok, w64_eq, toNat_ofNat]
      unfold bitM at ih
      cases e : preB (textM d (namedM segB x)).1 (hasM f.2.1 x) with
      | true =>
        have hle := preB_le e
        rw [cond_true, inc_eq (by omega) (by omega)]
        rw [e] at ih
        exact ih
      | false =>
        rw [cond_false]
        rw [e] at ih
        exact ih
theorem core_FnExactShip {a0 : Ty.den TStore} {a1 : Ty.den TDisk} {a2 : Ty.den TFollower} (f0 : Wf TStore a0) (f1 : Wf TDisk a1) (f2 : Wf TFollower a2) (w0 : weight TStore a0 ≤ 1048576) (w1 : weight TDisk a1 ≤ 1048576) (w2 : weight TFollower a2 ≤ 1048576) :
    ∃ r, Ev (fun k => spec_Ship.f k a0 a1 a2) r ∧ Ev (fun k => impl_Ship.f k a0 a1 a2) r ∧ wp TParcel r.1 ≤ 4398046511104 := by
  obtain ⟨h4, h5⟩ := store_weight w0
  obtain ⟨h1, h2, h3⟩ := disk_weight w1
  have hw : weight (.slice TPiece) a2.2.1 ≤ 1048576 := by
    have : weight TFollower a2 = 0 + (weight (.slice TPiece) a2.2.1 + 0) := rfl
    omega
  have hl := weight_len hw
  have ht := txs_weight a2.2.1
  have hd : DSz a1 := ⟨by omega, by omega, by omega⟩
  have hp : ∀ p ∈ a2.2.1, p.2.1.size ≤ 1073741824 := fun p h => by have := txs_mem h; omega
  refine ⟨_, ev_big fun k hk => specShip_eq hk hd (by omega) hp, ev_big fun k hk => implShip_eq hk hd h4 h5 (by omega) hp, ?_⟩
  show wp TParcel (shipM a0 a1 a2.2.1) ≤ _
  have e : wp TParcel (shipM a0 a1 a2.2.1) = 0 + (wp (.slice TBit) (shipM a0 a1 a2.2.1).2.1 + 0) := rfl
  rw [e, wp_flatS (t := TBit) rfl]
  unfold shipM
  cases storeM a0 a1 with
  | false => show 0 + (0 + 0) ≤ _; omega
  | true =>
    show 0 + ((a0.1.2.1.map (bitM a1 a2.2.1)).length + 0) ≤ _
    rw [List.length_map]
    omega
end Go.Proofs.YtgcahahklmfleaaGreatDoor.G
