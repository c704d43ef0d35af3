import Derived.Test.YtejbeioiomjbpaaMixA
namespace Go.Proofs.Ytejbeioiomjbpaa
open Go

section
variable {P : Program} {α β : Type}

/-- Two operands that no operation looks behind. -/
def plain2 : Value → Value → Bool
  | .int _ _, .int _ _ => true
  | .bool _, .bool _ => true
  | .string _, .string _ => true
  | .slice _ _ _, .slice none _ _ => true
  | .slice none _ _, .slice _ _ _ => true
  | .map _, .map none => true
  | .nilFunc, .nilFunc => true
  | .func _ _ _, .nilFunc => true
  | .agg xs, .agg ys => xs.all leafV && ys.all leafV
  | _, _ => false
def plain1 : Value → Bool
  | .int _ _ => true
  | _ => false
/-- Sums, comparisons and conversions: they look at no memory where their operands are plain. -/
def bnB : Op → Bool
  | .binOp .. | .convert .. => true
  | .unOp .. => true
  | _ => false
def plainOp (P : Program) (o : Oper) (a : Act) : Bool :=
  match o.op with
  | .binOp _ _ x y _ => plain2 (a.eval x) (a.eval y)
  | .convert s d x => plain1 (a.eval x) && (match P.underlying s, P.underlying d with | some (.int _), some (.int _) => true | _, _ => false)
  | .unOp _ _ x => plain1 (a.eval x) || (match a.eval x with | .bool _ => true | _ => false)
  | _ => true

theorem wl_equalIn (n : Nat) (t : TypeId) (x y : Value) (h : plain2 x y = true) : Wl P (Op.equalIn (n + 1) t x y) := by
  unfold Op.equalIn
  by_cases hv : plainV x = true ∧ plainV y = true
  · have := wl_equalIn_v (P := P) (n + 1) t x y hv.1 hv.2
    unfold Op.equalIn at this
    exact this
  refine Wl.bind (Wl.underlying t) fun d => ?_
  unfold plain2 at h
  split at h <;> first
    | (cases h; done)
    | (rename_i xs ys; rw [Bool.and_eq_true] at h; exact absurd ⟨h.1, h.2⟩ hv)
    | (repeat' (first | exact Wl.pure _ | exact Wl.stuck _ | (simp at *; done) | split))

theorem wl_shift (op : BinOp) (k : IntKind) (x : Int) (yk : IntKind) (y : Int) : Wl P (Op.shift op k x yk y) := by
  unfold Op.shift
  repeat' (first | exact Wl.pure _ | exact Wl.stuck _ | exact Wl.runtimePanic _ | split | dsimp only)
theorem wl_intDiv (op : BinOp) (k : IntKind) (x : Int) (y : Int) : Wl P (Op.intDiv op k x y) := by
  unfold Op.intDiv
  repeat' (first | exact Wl.pure _ | exact Wl.stuck _ | exact Wl.runtimePanic _ | split | dsimp only)
theorem wl_intBits (op : BinOp) (k : IntKind) (x : Int) (y : Int) : Wl P (Op.intBits op k x y) := by
  unfold Op.intBits
  repeat' (first | exact Wl.pure _ | exact Wl.stuck _ | split | dsimp only)
theorem wl_intCmp (op : BinOp) (x : Int) (y : Int) : Wl P (Op.intCmp op x y) := by
  unfold Op.intCmp
  repeat' (first | exact Wl.pure _ | exact Wl.stuck _ | split | dsimp only)
theorem wl_intArith (op : BinOp) (k : IntKind) (x : Int) (y : Int) : Wl P (Op.intArith op k x y) := by
  unfold Op.intArith
  repeat' (first | exact Wl.pure _ | exact Wl.stuck _ | split | dsimp only)
theorem wl_stringOp (op : BinOp) (x y : ByteArray) : Wl P (Op.stringOp op x y) := by
  unfold Op.stringOp
  repeat' (first | exact Wl.pure _ | exact Wl.stuck _ | exact Wl.unsupported _ | split | dsimp only)

theorem wl_int (op : BinOp) (t : TypeId) (k k' : IntKind) (a b : Int) : Wl P (binOp op t (.int k a) (.int k' b)) := by
  by_cases hk : k = k'
  · subst hk
    cases op <;> (simp only [binOp, ne_eq, not_true_eq_false, if_false]; first | exact wl_intArith _ _ _ _ | exact wl_intDiv _ _ _ _ | exact wl_intBits _ _ _ _ | exact wl_intCmp _ _ _ | exact wl_shift _ _ _ _ _)
  · cases op <;> (simp only [binOp, ne_eq, hk, not_false_eq_true, if_true]; first | exact Wl.stuck _ | exact wl_shift _ _ _ _ _)

theorem wl_binOp (op : BinOp) (t : TypeId) (x y : Value) (h : plain2 x y = true) : Wl P (binOp op t x y) := by
  have he : Wl P (Op.equal t x y) := wl_equalIn 9999 t x y h
  unfold plain2 at h
  split at h
  · exact wl_int _ _ _ _ _ _
  · cases op <;> first | exact Wl.stuck _ | exact Wl.bind he (fun _ => Wl.pure _)
  · cases op <;> (simp only [binOp]; exact wl_stringOp _ _ _)
  · cases op <;> first | exact Wl.stuck _ | exact Wl.bind he (fun _ => Wl.pure _)
  · cases op <;> first | exact Wl.stuck _ | exact Wl.bind he (fun _ => Wl.pure _)
  · cases op <;> first | exact Wl.stuck _ | exact Wl.bind he (fun _ => Wl.pure _)
  · cases op <;> first | exact Wl.stuck _ | exact Wl.bind he (fun _ => Wl.pure _)
  · cases op <;> first | exact Wl.stuck _ | exact Wl.bind he (fun _ => Wl.pure _)
  · cases op <;> first | exact Wl.stuck _ | exact Wl.bind he (fun _ => Wl.pure _)
  · cases h

theorem wl_eqGuard (op : BinOp) (t : TypeId) (x y : Operand) (a b : Value) (h : plain2 a b = true) : Wl P (eqGuard op t x y a b) := by
  unfold eqGuard
  unfold plain2 at h
  split at h <;> first
    | (cases h; done)
    | (rename_i xs ys
       rw [Bool.and_eq_true] at h
       have hg := wl_eqGuardIn_v (P := P) Op.maxDepth t (.agg xs) (.agg ys) h.1 h.2
       repeat' (first | exact Wl.pure _ | exact Wl.unsupported _ | exact hg | (refine Wl.bind Wl.program fun p => ?_) | (refine Wl.bind hg fun p => ?_) | split | dsimp only)
       done)
    | (repeat' (first | exact Wl.pure _ | split | dsimp only))

theorem wl_convert (s d : TypeId) (x : Value) (h1 : plain1 x = true) (h2 : (match P.underlying s, P.underlying d with | some (.int _), some (.int _) => true | _, _ => false) = true) : Wl P (convert s d x) := by
  unfold plain1 at h1
  split at h1
  · rename_i k n
    unfold convert
    refine Wl.bind' (Wl.underlying s) fun ds w w₁ hs => Wl.bind' (Wl.underlying d) fun dd w w₁ hd => ?_
    rw [run_underlying_inv hs, run_underlying_inv hd] at h2
    split at h2
    · rename_i e1 e2
      cases e1; cases e2
      exact Wl.pure _
    · cases h2
  · cases h1

theorem wl_unary (op : UnOp) (x : Value) (h : (plain1 x || (match x with | .bool _ => true | _ => false)) = true) : Wl P (Op.unary op x) := by
  cases x <;> first
    | (simp [plain1] at h; done)
    | (cases op <;> first | exact Wl.pure _ | exact Wl.stuck _ | exact wl_intArith _ _ _ _ | exact wl_intBits _ _ _ _)

/-- An operation of plain operands looks at no memory. -/
theorem wl_plain (a : Act) (o : Oper) (h : (wlB P o.op || bnB o.op && plainOp P o a) = true) : Wl P (execOp a.eval o) ∧ Vals P (execOp a.eval o) := by
  by_cases hw : wlB P o.op = true
  · exact wl_of a.eval o hw
  · have h' : bnB o.op = true ∧ plainOp P o a = true := by simpa [hw] using h
    obtain ⟨dst, op, type, pos, after, guard⟩ := o
    cases op <;> simp only [bnB, Bool.false_eq_true, false_and] at h'
    case binOp op t x y yt =>
      have hp : plain2 (a.eval x) (a.eval y) = true := h'.2
      exact ⟨Wl.bind (Wl.bind (wl_eqGuard _ _ _ _ _ _ hp) fun _ => wl_binOp _ _ _ _ hp) fun _ => Wl.pure _, Vals.of _⟩
    case unOp op t x =>
      have hp : (plain1 (a.eval x) || (match a.eval x with | .bool _ => true | _ => false)) = true := h'.2
      exact ⟨Wl.bind (wl_unary _ _ hp) fun _ => Wl.pure _, Vals.of _⟩
    case convert s d x =>
      have hp : (plain1 (a.eval x) && (match P.underlying s, P.underlying d with | some (.int _), some (.int _) => true | _, _ => false)) = true := h'.2
      rw [Bool.and_eq_true] at hp
      exact ⟨Wl.bind (wl_convert _ _ _ hp.1 hp.2) fun _ => Wl.pure _, Vals.of _⟩

end
end Go.Proofs.Ytejbeioiomjbpaa
