/- M: DirDrop, DirPut of the reference: what they answer. -/
import Derived.Test.YtegeiflafmpefaaMEnt
import Derived.Test.YtegeiflafmpefaaMAdj
set_option linter.unusedVariables false
set_option linter.unusedSimpArgs false
namespace Go.Proofs.Ytegeiflafmpefaa.G
open Go.V
def dropM (l : EntryL) (key : ByteArray) : EntryL := l.filter fun x => !(seq x.1 key)
def leE (key : ByteArray) (x : Ty.den TEntry) : Bool := sls x.1 key || seq x.1 key
def insE (l : EntryL) (e : Ty.den TEntry) : EntryL := l.takeWhile (leE e.1) ++ e :: l.dropWhile (leE e.1)
def putM (l : EntryL) (e : Ty.den TEntry) : EntryL := insE (dropM l e.1) e
theorem dropM_len (l : EntryL) (key : ByteArray) : (dropM l key).length ≤ l.length := List.length_filter_le ..
theorem insE_len (l : EntryL) (e : Ty.den TEntry) : (insE l e).length = l.length + 1 := by
  unfold insE
  rw [List.length_append, List.length_cons]
  have := congrArg List.length (List.takeWhile_append_dropWhile (p := leE e.1) (l := l))
  rw [List.length_append] at this
  omega
theorem putM_len (l : EntryL) (e : Ty.den TEntry) : (putM l e).length ≤ l.length + 1 := by
  unfold putM
  have := dropM_len l e.1
  rw [insE_len]
  omega
theorem specDirPut_eq {k : Nat} (hk : 2 ^ 50 ≤ k) {l : EntryL} (e : Ty.den TEntry) (hl : l.length ≤ 1073741823) : spec_DirPut.f k l e = some (putM l e, ()) := by
  unfold spec_DirPut.f spec_DirPut.t
  refine (forL0 (L := fun n i (s : Bool × EntryL) => spec_DirPut.l0 k n l s.1 i e.1 e.2.1 e.2.2.1 e.2.2.2.1 e.2.2.2.2.1 s.2) (R := fun r s => some (s.2 ++ bif s.1 then dropM r e.1 else insE (dropM r e.1) e, ())) (Ty.dflt TEntry) l (fun i s => (s.2.length : Int) ≤ 2 * i + 1) (fun n s hs => ?_) (fun n i s x rest h0 h1 hx hr hp ih => ?_) (n := k) (s := (false, [])) (by omega) (by simp)).trans (by rw [List.nil_append]; rfl)
  · obtain ⟨dn, out⟩ := s
    simp only [] at hs
    cases dn with
    | true => simp (disch := first | omega | decide) only [spec_DirPut.l0, spec_DirPut.b0, decF, cond_false, cond_true, Bool.not_true, dropM, List.filter_nil, List.append_nil]
    | false => simp (disch := first | omega | decide) only [spec_DirPut.l0, spec_DirPut.b0, decF, cond_false, cond_true, Bool.not_false, rm_ok, dropM, List.filter_nil, insE, List.takeWhile_nil, List.dropWhile_nil, List.nil_append]
  · obtain ⟨dn, out⟩ := s
    simp only [] at hp
    cases c : seq x.1 e.1 with
    | true =>
      simp (disch := omega) only [spec_DirPut.l0, spec_DirPut.b0, decT, cond_true, inb_eq, hx, c, w64_eq]
      refine (ih (dn, out) (by simp only []; omega)).trans ?_
      simp only [dropM, List.filter_cons, c, Bool.not_true, Bool.false_eq_true, if_false]
    | false =>
      have ef : dropM (x :: rest) e.1 = x :: dropM rest e.1 := by simp only [dropM, List.filter_cons, c, Bool.not_false, if_true]
      cases dn with
      | true =>
        simp (disch := first | omega | decide) only [spec_DirPut.l0, spec_DirPut.b0, decT, cond_true, cond_false, inb_eq, hx, c, w64_eq, Bool.not_true, rm_ok]
        refine (ih (true, out ++ [x]) (by simp only [len_snoc]; omega)).trans ?_
        rw [ef]
        simp only [cond_true, List.append_assoc, List.cons_append, List.nil_append]
      | false =>
        cases c2 : sls x.1 e.1 with
        | true =>
          simp (disch := first | omega | decide) only [spec_DirPut.l0, spec_DirPut.b0, decT, cond_true, cond_false, inb_eq, hx, c, c2, w64_eq, Bool.not_false, Bool.not_true, Bool.true_or, rm_ok]
          refine (ih (false, out ++ [x]) (by simp only [len_snoc]; omega)).trans ?_
          rw [ef]
          simp only [cond_false, insE, leE, List.takeWhile_cons, List.dropWhile_cons, c2, Bool.true_or, if_true, List.append_assoc, List.cons_append, List.nil_append]
        | false =>
          have hx2 : (out ++ [(e.1, (e.2.1, (e.2.2.1, (e.2.2.2.1, (e.2.2.2.2.1, ())))))] : EntryL).length + 1 ≤ 1099511627776 := by rw [len_snoc]; omega
          simp (disch := first | omega | decide) only [spec_DirPut.l0, spec_DirPut.b0, decT, cond_true, cond_false, inb_eq, hx, c, c2, w64_eq, Bool.not_false, Bool.or_false, rm_ok]
          refine (ih (true, (out ++ [e]) ++ [x]) (by simp only [len_snoc]; omega)).trans ?_
          rw [ef]
          simp only [cond_true, cond_false, insE, leE, List.takeWhile_cons, List.dropWhile_cons, c, c2, Bool.or_false, Bool.false_eq_true, if_false, List.append_assoc, List.cons_append, List.nil_append]
end Go.Proofs.Ytegeiflafmpefaa.G
