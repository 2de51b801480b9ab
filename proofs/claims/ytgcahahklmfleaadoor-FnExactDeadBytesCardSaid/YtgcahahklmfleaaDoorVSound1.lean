/- V: what its values mean in the model's memory, and how that lives on from world to world. -/
import Derived.Test.YtgcahahklmfleaaDoorVDefs
import Derived.Laws.AppendOwn
import Derived.Laws.MakeOwn
import Derived.Laws.Cells
import Derived.Laws.IdiomCopy
set_option linter.unusedVariables false
set_option linter.unusedSimpArgs false
namespace Go.V
open Go.RowKit

def RdL {α : Type} (R : α → List Value → Prop) : List α → List Value → Prop
  | [], xs => xs = []
  | x :: l, xs => ∃ d r, xs = d ++ r ∧ R x d ∧ RdL R l r

/-- Cells that read as a value; what is behind them lies in blocks of X. -/
def Rd (w : World) (X : Nat → Prop) : (t : Ty) → t.den → List Value → Prop
  | .bool, b, cs => cs = [.bool b]
  | .int k, n, cs => cs = [.int k n]
  | .str, s, cs => cs = [.string s]
  | .slice e, l, cs => ∃ a n c xs, cs = [.slice a n c] ∧ n = l.length ∧ n ≤ c ∧ RdL (Rd w X e) l xs ∧
      (l ≠ [] → ∃ b o, a = some ⟨b, o, none⟩ ∧ X b ∧ ∀ j u, xs[j]? = some u → w.cell? ⟨b, o + j, none⟩ = some u)
  | .pair s t, x, cs => ∃ c d, cs = c ++ d ∧ Rd w X s x.1 c ∧ Rd w X t x.2 d
  | .unit, _, cs => cs = []
  | .opq, _, _ => False

theorem RdL.imp {α : Type} {R S : α → List Value → Prop} : ∀ {l : List α} {xs : List Value}, (∀ x d, x ∈ l → R x d → S x d) → RdL R l xs → RdL S l xs
  | [], _, _, h => h
  | x :: l, _, hi, ⟨d, r, e, h1, h2⟩ => ⟨d, r, e, hi x d (List.mem_cons_self ..) h1, RdL.imp (fun y d' hy => hi y d' (List.mem_cons_of_mem _ hy)) h2⟩

theorem RdL.append {α : Type} {R : α → List Value → Prop} : ∀ {l m : List α} {xs ys : List Value}, RdL R l xs → RdL R m ys → RdL R (l ++ m) (xs ++ ys)
  | [], _, _, _, h, h' => by cases h; simpa using h'
  | x :: l, m, _, ys, ⟨d, r, e, h1, h2⟩, h' => ⟨d, r ++ ys, by rw [e, List.append_assoc], h1, RdL.append h2 h'⟩

theorem RdL.length {α : Type} {R : α → List Value → Prop} {n : Nat} (hR : ∀ x d, R x d → d.length = n) : ∀ {l : List α} {xs : List Value}, RdL R l xs → xs.length = l.length * n
  | [], _, h => by cases h; simp
  | x :: l, _, ⟨d, r, e, h1, h2⟩ => by
    have := RdL.length hR h2
    rw [e, List.length_append, hR x d h1, this, List.length_cons, Nat.succ_mul]; omega

theorem RdL.all {α : Type} {R : α → List Value → Prop} {p : Value → Prop} (hR : ∀ x d, R x d → ∀ u ∈ d, p u) : ∀ {l : List α} {xs : List Value}, RdL R l xs → ∀ u ∈ xs, p u
  | [], _, h => by cases h; simp
  | x :: l, _, ⟨d, r, e, h1, h2⟩ => by
    subst e
    intro u hu
    rcases List.mem_append.1 hu with hu | hu
    · exact hR x d h1 u hu
    · exact RdL.all hR h2 u hu

/-- The i-th element's cells. -/
theorem RdL.get {α : Type} {R : α → List Value → Prop} {n : Nat} (hR : ∀ x d, R x d → d.length = n) :
    ∀ {l : List α} {xs : List Value} (i : Nat) (z : α), i < l.length → RdL R l xs → ∃ d, R (l.getD i z) d ∧ ∀ j, j < n → xs[i * n + j]? = d[j]?
  | [], _, i, z, hi, _ => absurd hi (by simp)
  | x :: l, _, 0, z, _, ⟨d, r, e, h1, h2⟩ => ⟨d, by simpa using h1, fun j hj => by
      subst e; rw [Nat.zero_mul, Nat.zero_add, List.getElem?_append_left (by rw [hR x d h1]; exact hj)]⟩
  | x :: l, _, i + 1, z, hi, ⟨d, r, e, h1, h2⟩ => by
    obtain ⟨d', hd', hx⟩ := RdL.get hR i z (by simpa using hi) h2
    refine ⟨d', by simpa using hd', fun j hj => ?_⟩
    subst e
    have hl := hR x d h1
    rw [List.getElem?_append_right (by rw [hl, Nat.succ_mul]; omega), hl, ← hx j hj]
    congr 1
    rw [Nat.succ_mul]; omega

theorem RdL.set {α : Type} {R : α → List Value → Prop} {n : Nat} (hR : ∀ x d, R x d → d.length = n) :
    ∀ {l : List α} {xs : List Value} (i : Nat) (y : α) (d : List Value), i < l.length → RdL R l xs → R y d →
      RdL R (l.set i y) (xs.take (i * n) ++ d ++ xs.drop (i * n + n))
  | [], _, i, _, _, hi, _, _ => absurd hi (by simp)
  | x :: l, _, 0, y, d', _, ⟨d, r, e, h1, h2⟩, hy => by
    subst e
    have hl := hR x d h1
    refine ⟨d', r, ?_, hy, h2⟩
    simp [hl.symm]
  | x :: l, _, i + 1, y, d', hi, ⟨d, r, e, h1, h2⟩, hy => by
    subst e
    have hl := hR x d h1
    have ih := RdL.set hR i y d' (by simpa using hi) h2 hy
    refine ⟨d, r.take (i * n) ++ d' ++ r.drop (i * n + n), ?_, h1, ih⟩
    have e1 : (i + 1) * n = d.length + i * n := by rw [Nat.succ_mul, hl]; omega
    rw [e1, List.take_length_add_append, Nat.add_assoc, List.drop_length_add_append]
    simp [List.append_assoc]

theorem Rd.len {w : World} {X : Nat → Prop} : ∀ {t : Ty} {x : t.den} {cs : List Value}, Rd w X t x cs → cs.length = t.size
  | .bool, _, _, h => by cases h; rfl
  | .int _, _, _, h => by cases h; rfl
  | .str, _, _, h => by cases h; rfl
  | .slice _, _, _, ⟨_, _, _, _, h, _⟩ => by cases h; rfl
  | .pair s t, _, _, ⟨c, d, e, h1, h2⟩ => by rw [e, List.length_append, h1.len, h2.len]; rfl
  | .unit, _, _, h => by cases h; rfl
  | .opq, _, _, h => h.elim

theorem Rd.flat {w : World} {X : Nat → Prop} : ∀ {t : Ty} {x : t.den} {cs : List Value}, Rd w X t x cs → ∀ u ∈ cs, u.oneCell' = true
  | .bool, _, _, h => by cases h; simp [Value.oneCell']
  | .int _, _, _, h => by cases h; simp [Value.oneCell']
  | .str, _, _, h => by cases h; simp [Value.oneCell']
  | .slice _, _, _, ⟨_, _, _, _, h, _⟩ => by cases h; simp [Value.oneCell']
  | .pair s t, _, _, ⟨c, d, e, h1, h2⟩ => by
    subst e
    intro u hu
    rcases List.mem_append.1 hu with hu | hu
    · exact h1.flat u hu
    · exact h2.flat u hu
  | .unit, _, _, h => by cases h; simp
  | .opq, _, _, h => h.elim

theorem cell_block {w w' : World} {b o : Nat} (h : w'.heap[b]? = w.heap[b]?) : w'.cell? ⟨b, o, none⟩ = w.cell? ⟨b, o, none⟩ := World.cell?_of_block (a := ⟨b, o, none⟩) h

theorem Rd.mono {w w' : World} {X Y : Nat → Prop} (hX : ∀ b, X b → Y b) (hw : ∀ b, X b → w'.heap[b]? = w.heap[b]?) :
    ∀ {t : Ty} {x : t.den} {cs : List Value}, Rd w X t x cs → Rd w' Y t x cs
  | .bool, _, _, h => h
  | .int _, _, _, h => h
  | .str, _, _, h => h
  | .slice e, _, _, ⟨a, n, c, xs, h, hn, hc, hl, hr⟩ => ⟨a, n, c, xs, h, hn, hc, hl.imp (fun _ _ _ hx => Rd.mono hX hw hx), fun hne => by
      obtain ⟨b, o, ha, hb, hcell⟩ := hr hne
      exact ⟨b, o, ha, hX b hb, fun j u hj => (cell_block (hw b hb)).trans (hcell j u hj)⟩⟩
  | .pair s t, _, _, ⟨c, d, e, h1, h2⟩ => ⟨c, d, e, Rd.mono hX hw h1, Rd.mono hX hw h2⟩
  | .unit, _, _, h => h
  | .opq, _, _, h => h

theorem RdL.mono {w w' : World} {X Y : Nat → Prop} (hX : ∀ b, X b → Y b) (hw : ∀ b, X b → w'.heap[b]? = w.heap[b]?) {e : Ty} {l : List e.den} {xs : List Value}
    (h : RdL (Rd w X e) l xs) : RdL (Rd w' Y e) l xs := h.imp fun _ _ _ hx => hx.mono hX hw

/-- What a row stands for: a slice's value and length, or a variable's block; a cell's place in it. -/
structure Blk where
  v : Value
  b : Nat
  sz : Nat
  n : Nat
  deriving Inhabited

mutual
def RepV (w : World) (X : Bool → Nat → Prop) (N : Nat → Prop) (φ : Nat → Blk) : AV → Value → Prop
  | .junk, _ => True
  | .bool b, v => v = .bool b
  | .int k n, v => v = .int k n
  | .str s, v => v = .string s
  | .nil _, v => v = .slice none 0 0
  | .sl p e l, v => Rd w (X p) (.slice e) l [v]
  | .ref r, v => N r ∧ v = (φ r).v ∧ ∃ a n c, v = .slice a n c
  | .ptr r i off, v => N r ∧ i < (φ r).n ∧ v = .pointer (some ⟨(φ r).b, i * (φ r).sz + off, none⟩)
  | .sptr p e l i off, v => i < l.length ∧ ∃ b o xs, v = .pointer (some ⟨b, o + (i * e.size + off), none⟩) ∧ X p b ∧ RdL (Rd w (X p) e) l xs ∧
      ∀ j u, xs[j]? = some u → w.cell? ⟨b, o + j, none⟩ = some u
  | .agg cs, v => ∃ vs, v = .agg vs.toArray ∧ RepL w X N φ cs vs
  | .tup cs, v => ∃ vs, v = .tuple vs.toArray ∧ RepT w X N φ cs vs
  | .fn f cs, v => ∃ vs, v = .func (.func f) #[] vs.toArray ∧ RepT w X N φ cs vs
/-- Cells: each of them is one. -/
def RepL (w : World) (X : Bool → Nat → Prop) (N : Nat → Prop) (φ : Nat → Blk) : List AV → List Value → Prop
  | [], vs => vs = []
  | c :: cs, vs => ∃ u us, vs = u :: us ∧ u.oneCell' = true ∧ RepV w X N φ c u ∧ RepL w X N φ cs us
def RepT (w : World) (X : Bool → Nat → Prop) (N : Nat → Prop) (φ : Nat → Blk) : List AV → List Value → Prop
  | [], vs => vs = []
  | c :: cs, vs => ∃ u us, vs = u :: us ∧ RepV w X N φ c u ∧ RepT w X N φ cs us
end

/-- Cells put over others, one by one. -/
def setVs : List Value → Nat → List Value → List Value
  | l, _, [] => l
  | l, off, u :: us => setVs (l.set off u) (off + 1) us

section
variable {w w' : World} {X X' : Bool → Nat → Prop} {N N' : Nat → Prop} {φ φ' : Nat → Blk}
mutual
theorem RepV.mono (hX : ∀ p b, X p b → X' p b) (hw : ∀ p b, X p b → w'.heap[b]? = w.heap[b]?) (hN : ∀ r, N r → N' r) (hφ : ∀ r, N r → φ' r = φ r) :
    ∀ {av : AV} {v : Value}, RepV w X N φ av v → RepV w' X' N' φ' av v
  | .junk, _, _ => trivial
  | .bool _, _, h => h
  | .int _ _, _, h => h
  | .str _, _, h => h
  | .nil _, _, h => h
  | .sl p e l, _, h => Rd.mono (hX p) (hw p) h
  | .ref r, _, ⟨h, e, hs⟩ => ⟨hN r h, by rw [hφ r h]; exact e, hs⟩
  | .ptr r i off, _, ⟨h, hi, e⟩ => ⟨hN r h, by rw [hφ r h]; exact hi, by rw [hφ r h]; exact e⟩
  | .sptr p e l i off, _, ⟨hi, b, o, xs, hv, hb, hl, hc⟩ => ⟨hi, b, o, xs, hv, hX p b hb, hl.mono (hX p) (hw p), fun j u hj => (cell_block (hw p b hb)).trans (hc j u hj)⟩
  | .agg cs, _, ⟨vs, hv, h⟩ => ⟨vs, hv, RepL.mono hX hw hN hφ h⟩
  | .tup cs, _, ⟨vs, hv, h⟩ => ⟨vs, hv, RepT.mono hX hw hN hφ h⟩
  | .fn f cs, _, ⟨vs, hv, h⟩ => ⟨vs, hv, RepT.mono hX hw hN hφ h⟩
theorem RepL.mono (hX : ∀ p b, X p b → X' p b) (hw : ∀ p b, X p b → w'.heap[b]? = w.heap[b]?) (hN : ∀ r, N r → N' r) (hφ : ∀ r, N r → φ' r = φ r) :
    ∀ {cs : List AV} {vs : List Value}, RepL w X N φ cs vs → RepL w' X' N' φ' cs vs
  | [], _, h => h
  | c :: cs, _, ⟨u, us, e, h1, h2, h3⟩ => ⟨u, us, e, h1, RepV.mono hX hw hN hφ h2, RepL.mono hX hw hN hφ h3⟩
theorem RepT.mono (hX : ∀ p b, X p b → X' p b) (hw : ∀ p b, X p b → w'.heap[b]? = w.heap[b]?) (hN : ∀ r, N r → N' r) (hφ : ∀ r, N r → φ' r = φ r) :
    ∀ {cs : List AV} {vs : List Value}, RepT w X N φ cs vs → RepT w' X' N' φ' cs vs
  | [], _, h => h
  | c :: cs, _, ⟨u, us, e, h2, h3⟩ => ⟨u, us, e, RepV.mono hX hw hN hφ h2, RepT.mono hX hw hN hφ h3⟩
end

theorem RepL.len : ∀ {cs : List AV} {vs : List Value}, RepL w X N φ cs vs → vs.length = cs.length
  | [], _, h => by unfold RepL at h; subst h; rfl
  | c :: cs, _, h => by unfold RepL at h; obtain ⟨u, us, e, _, _, h3⟩ := h; subst e; simp [RepL.len h3]
theorem RepL.flat : ∀ {cs : List AV} {vs : List Value}, RepL w X N φ cs vs → ∀ u ∈ vs, u.oneCell' = true
  | [], _, h => by unfold RepL at h; subst h; simp
  | c :: cs, _, h => by
    unfold RepL at h
    obtain ⟨u, us, e, h1, _, h3⟩ := h
    subst e
    intro y hy
    rcases List.mem_cons.1 hy with rfl | hy
    · exact h1
    · exact RepL.flat h3 y hy
theorem RepL.append : ∀ {cs ds : List AV} {vs us : List Value}, RepL w X N φ cs vs → RepL w X N φ ds us → RepL w X N φ (cs ++ ds) (vs ++ us)
  | [], _, _, _, h, h' => by unfold RepL at h; subst h; simpa using h'
  | c :: cs, ds, _, us', h, h' => by
    unfold RepL at h
    obtain ⟨u, us, e, h1, h2, h3⟩ := h
    subst e
    show RepL w X N φ (c :: (cs ++ ds)) (u :: (us ++ us'))
    unfold RepL
    exact ⟨u, us ++ us', rfl, h1, h2, RepL.append h3 h'⟩
theorem RepL.take : ∀ {cs : List AV} {vs : List Value} (n : Nat), RepL w X N φ cs vs → RepL w X N φ (cs.take n) (vs.take n)
  | cs, vs, 0, _ => by simp [RepL]
  | [], _, n + 1, h => by unfold RepL at h; subst h; simp [RepL]
  | c :: cs, _, n + 1, h => by
    unfold RepL at h
    obtain ⟨u, us, e, h1, h2, h3⟩ := h
    subst e
    show RepL w X N φ (c :: cs.take n) (u :: us.take n)
    unfold RepL
    exact ⟨u, _, rfl, h1, h2, RepL.take n h3⟩
theorem RepL.drop : ∀ {cs : List AV} {vs : List Value} (n : Nat), RepL w X N φ cs vs → RepL w X N φ (cs.drop n) (vs.drop n)
  | cs, vs, 0, h => by simpa using h
  | [], _, n + 1, h => by unfold RepL at h; subst h; simp [RepL]
  | c :: cs, _, n + 1, h => by
    unfold RepL at h
    obtain ⟨u, us, e, h1, h2, h3⟩ := h
    subst e
    exact RepL.drop n h3
theorem RepL.set : ∀ {cs : List AV} {vs : List Value} (i : Nat) {c : AV} {u : Value}, RepL w X N φ cs vs → u.oneCell' = true → RepV w X N φ c u → RepL w X N φ (cs.set i c) (vs.set i u)
  | [], _, i, _, _, h, _, _ => by unfold RepL at h; subst h; simp [RepL]
  | c :: cs, _, 0, c', u', h, h1', h2' => by
    unfold RepL at h
    obtain ⟨u, us, e, h1, h2, h3⟩ := h
    subst e
    show RepL w X N φ (c' :: cs) (u' :: us)
    unfold RepL
    exact ⟨u', us, rfl, h1', h2', h3⟩
  | c :: cs, _, i + 1, c', u', h, h1', h2' => by
    unfold RepL at h
    obtain ⟨u, us, e, h1, h2, h3⟩ := h
    subst e
    show RepL w X N φ (c :: cs.set i c') (u :: us.set i u')
    unfold RepL
    exact ⟨u, _, rfl, h1, h2, RepL.set i h3 h1' h2'⟩
theorem RepL.setCells : ∀ {ds : List AV} {cs : List AV} {vs us : List Value} (off : Nat), RepL w X N φ cs vs → RepL w X N φ ds us →
    RepL w X N φ (setCells cs off ds) (setVs vs off us)
  | [], cs, vs, us, off, h, h' => by unfold RepL at h'; subst h'; simpa [Go.V.setCells, setVs] using h
  | d :: ds, cs, vs, us, off, h, h' => by
    unfold RepL at h'
    obtain ⟨u, us, e, h1, h2, h3⟩ := h'
    subst e
    exact RepL.setCells (off + 1) (h.set off h1 h2) h3

/-- Values that were read, as cells. -/
theorem Rd.inj {p : Bool} : ∀ {t : Ty} {x : t.den} {cs : List Value}, Rd w (X p) t x cs → RepL w X N φ (inj p t x) cs
  | .bool, _, _, h => by cases h; exact ⟨_, _, rfl, rfl, rfl, rfl⟩
  | .int _, _, _, h => by cases h; exact ⟨_, _, rfl, rfl, rfl, rfl⟩
  | .str, _, _, h => by cases h; exact ⟨_, _, rfl, rfl, rfl, rfl⟩
  | .slice e, l, cs, h => by
    obtain ⟨a, n, c, xs, hc, hr⟩ := h
    subst hc
    exact ⟨_, _, rfl, rfl, ⟨a, n, c, xs, rfl, hr⟩, rfl⟩
  | .pair s t, _, _, ⟨c, d, e, h1, h2⟩ => by subst e; exact RepL.append h1.inj h2.inj
  | .unit, _, _, h => by cases h; rfl
  | .opq, _, _, h => h.elim
end
end Go.V
