/- V: each part of an operation hands on just one value: from the passing of a continuation to a result. -/
import Derived.Test.YtgcahahklmfleaaDoorVSound2
set_option linter.unusedVariables false
set_option linter.unusedSimpArgs false
namespace Go.V

theorem bindc {α β : Type} (c : Bool) (x y : Option α) (f : α → Option β) : (bif c then x else y).bind f = bif c then x.bind f else y.bind f := by cases c <;> rfl

section
variable {R : Type}
theorem binop_bind (bt : Bool) (eq : Option (List Ty)) (op : BinOp) (x y : AV) (k : AV → Option R) : binop bt eq op x y k = (binop bt eq op x y some).bind k := by
  unfold binop
  repeat' split
  all_goals first
    | rfl
    | (simp only [bindc]; rfl)
    | (simp only [bindc]; congr 1; done)
    | (simp only [bindc]; congr 1; (repeat' split) <;> rfl)
theorem unop_bind (op : UnOp) (x : AV) (k : AV → Option R) : unop op x k = (unop op x some).bind k := by
  unfold unop; split <;> rfl
theorem ld_bind (hp : Hp) (t : Ty) (a : AV) (k : AV → Option R) : ld hp t a k = (ld hp t a some).bind k := by
  unfold ld
  repeat' split
  all_goals first
    | rfl
    | (simp only [bindc]; rfl)
theorem storeTo_bind (hp : Hp) (t : Ty) (a v : AV) (k : Ups → Option R) : storeTo hp t a v k = (storeTo hp t a v some).bind k := by
  unfold storeTo
  rw [bindc]
  congr 1
  repeat' split
  all_goals first
    | rfl
    | (simp only [bindc]; rfl)
    | (simp only [bindc]; congr 1; (repeat' split) <;> rfl)
theorem addOff_bind (a : AV) (n : Nat) (k : AV → Option R) : addOff a n k = (addOff a n some).bind k := by
  unfold addOff; split <;> rfl
theorem indexAddr_bind (tb : Tab) (hp : Hp) (t : Nat) (x i : AV) (k : AV → Option R) : indexAddr tb hp t x i k = (indexAddr tb hp t x i some).bind k := by
  unfold indexAddr
  repeat' split
  all_goals first
    | rfl
    | (simp only [bindc]; rfl)
theorem cutL_bind {α : Type} (l : List α) (lo hi : Option AV) (k : List α → Option R) : cutL l lo hi k = (cutL l lo hi some).bind k := by
  unfold cutL
  split <;> first | rfl | (simp only [bindc]; rfl)
theorem cutS_bind (s : ByteArray) (lo hi : Option AV) (k : ByteArray → Option R) : cutS s lo hi k = (cutS s lo hi some).bind k := by
  unfold cutS
  split <;> first | rfl | (simp only [bindc]; rfl)
theorem sliceOp_bind (u : Ty) (hp : Hp) (x : AV) (lo hi : Option AV) (k : AV → Ups → Option R) : sliceOp u hp x lo hi k = (sliceOp u hp x lo hi fun v us => some (v, us)).bind fun p => k p.1 p.2 := by
  unfold sliceOp
  repeat' split
  all_goals first
    | rfl
    | (rw [cutS_bind]; conv => rhs; rw [cutS_bind]
       rw [Option.bind_assoc]; rfl)
    | (rw [cutL_bind]; conv => rhs; rw [cutL_bind]
       rw [Option.bind_assoc]; rfl)
    | (rw [bindc]; congr 1; rw [cutL_bind]; conv => rhs; rw [cutL_bind]
       rw [Option.bind_assoc]; rfl)
theorem lenOf_bind (u : Ty) (hp : Hp) (x : AV) (k : AV → Option R) : lenOf u hp x k = (lenOf u hp x some).bind k := by
  unfold lenOf
  repeat' split
  all_goals rfl
theorem appendOp_bind (e : Ty) (hp : Hp) (id : Nat) (d s : AV) (k : AV → Ups → Option R) : appendOp e hp id d s k = (appendOp e hp id d s fun v us => some (v, us)).bind fun p => k p.1 p.2 := by
  unfold appendOp
  repeat' split
  all_goals first
    | rfl
    | (simp only [bindc]; rfl)
theorem callC_bind (c : Cn) (hp : Hp) (id : Nat) (as : List AV) (k : AV → Ups → Nat → Option R) : callC c hp id as k = (callC c hp id as fun v us nx => some (v, us, nx)).bind fun p => k p.1 p.2.1 p.2.2 := by
  unfold callC
  split
  · rfl
  · split
    · rfl
    · cases onceB (gvs hp c.A _) && apartL (rds hp c.A _) (gvs hp c.A _) with
      | false => rfl
      | true =>
        simp only [cond_true]
        split <;> rfl

theorem oper_bind (tb : Tab) (ct : List (Nat × Cn)) (o : Oper) (tm : List AV) (hp : Hp) (id : Nat) (k : AV → Ups → Nat → Option R) :
    oper tb ct o tm hp id k = (oper tb ct o tm hp id fun v us nx => some (v, us, nx)).bind fun p => k p.1 p.2.1 p.2.2 := by
  unfold oper
  split
  all_goals (try (repeat' split))
  all_goals first
    | rfl
    | (simp only [bindc]; rfl)
    | (rw [binop_bind]; conv => rhs; rw [binop_bind]
       rw [Option.bind_assoc]; rfl)
    | (rw [unop_bind]; conv => rhs; rw [unop_bind]
       rw [Option.bind_assoc]; rfl)
    | (rw [ld_bind]; conv => rhs; rw [ld_bind]
       rw [Option.bind_assoc]; rfl)
    | (rw [storeTo_bind]; conv => rhs; rw [storeTo_bind]
       rw [Option.bind_assoc]; rfl)
    | (rw [addOff_bind]; conv => rhs; rw [addOff_bind]
       rw [Option.bind_assoc]; rfl)
    | (rw [indexAddr_bind]; conv => rhs; rw [indexAddr_bind]
       rw [Option.bind_assoc]; rfl)
    | (rw [sliceOp_bind]; conv => rhs; rw [sliceOp_bind]
       rw [Option.bind_assoc]; rfl)
    | (rw [lenOf_bind]; conv => rhs; rw [lenOf_bind]
       rw [Option.bind_assoc]; rfl)
    | (rw [appendOp_bind]; conv => rhs; rw [appendOp_bind]
       rw [Option.bind_assoc]; rfl)
    | (rw [callC_bind])
    | (rw [bindc]; congr 1; rw [appendOp_bind]; conv => rhs; rw [appendOp_bind]
       rw [Option.bind_assoc]; rfl)
end
end Go.V
