/- The frame of FnExactReadPairs: what is copied, compared and marked stays as it should. -/
import Derived.Test.YtiigjojchlplpaaMPairs
set_option linter.unusedVariables false
namespace Go.Proofs.Ytiigjojchlplpaa.G
open Go.V
theorem fnExactReadPairs_pure : ∀ x, Wf (tup [.str]) x → ∃ k r, laws_FnExactReadPairs.f k x.1 = some r ∧ sndT (B := [.bool]) (outT ([.val .str])) r = (true, ()) := by
  rintro ⟨a0, _⟩ ⟨f0, _⟩
  suffices Ev (fun k => laws_FnExactReadPairs.t k a0) (true, ()) by
    obtain ⟨k, h⟩ := this.some
    exact ⟨k, (true, ()), h, rfl⟩
  unfold laws_FnExactReadPairs.t
  refine Ev.big (fun _ => Ev.of fun _ => rfl) fun w0 => ?_
  obtain ⟨r, hs, hi, hb⟩ := core_FnExactReadPairs f0 w0
  refine Ev.bind hs ?_
  refine Ev.bind hi ?_
  refine Ev.bind (eqPairS_ev r.1 (hb)) ?_
  refine Ev.notF ?_
  first | refine Ev.skipB ?_ | refine Ev.skipI ?_
  have ln_4 := wp_len hb
  refine Ev.bind (markPairS_ev r.1 (wp_len hb) 1 (by first | omega | (dsimp only; omega)) (by first | omega | (dsimp only; omega))) ?_
  refine Ev.bind (heldPairS_mk r.1 (wp_len hb) 1 (by omega) (by omega)) ?_
  refine Ev.skip (by first | omega | (dsimp only; omega)) ?_
  refine Ev.skipEq rfl ?_
  refine Ev.bind hi ?_
  refine Ev.bind (eqPairS_ev r.1 (hb)) ?_
  refine Ev.notF ?_
  first | refine Ev.skipB ?_ | refine Ev.skipI ?_
  refine Ev.bind (heldPairS_mk r.1 (wp_len hb) 1 (by omega) (by omega)) ?_
  refine Ev.skip (by first | omega | (dsimp only; omega)) ?_
  refine Ev.skipEq rfl ?_
  exact Ev.of fun _ => rfl
end Go.Proofs.Ytiigjojchlplpaa.G
