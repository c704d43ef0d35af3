/-
  Structs and arrays of plain cells are compared without a look at memory.
-/
import Derived.Test.YtejbeioiomjbpaaMixB
namespace Go.Proofs.Ytejbeioiomjbpaa
open Go

section
variable {P : Program} {α β : Type}

def leafV : Value → Bool
  | .int _ _ => true
  | .bool _ => true
  | .string _ => true
  | _ => false
/-- A plain value, or one of plain cells. -/
def plainV : Value → Bool
  | .agg cs => cs.all leafV
  | v => leafV v

theorem plainV_leaf {v : Value} (h : leafV v = true) : plainV v = true := by
  unfold leafV at h
  split at h <;> first | rfl | cases h

theorem Wl.forIn_list (l : List α) (f : α → β → Sem (ForInStep β)) (hf : ∀ a b, Wl P (f a b)) : ∀ b, Wl P (forIn l b f) := by
  induction l with
  | nil => intro b; rw [List.forIn_nil]; exact Wl.pure _
  | cons a l ih =>
    intro b
    rw [List.forIn_cons]
    refine Wl.bind (hf a b) fun r => ?_
    cases r with
    | done b => exact Wl.pure _
    | yield b => exact ih b
theorem Wl.forIn_array (l : Array α) (f : α → β → Sem (ForInStep β)) (hf : ∀ a b, Wl P (f a b)) (b : β) : Wl P (forIn l b f) := by
  rw [← Array.forIn_toList]
  exact Wl.forIn_list _ _ hf b
theorem Wl.forIn_range (n : Nat) (f : Nat → β → Sem (ForInStep β)) (hf : ∀ a b, Wl P (f a b)) (b : β) : Wl P (forIn [0:n] b f) := by
  rw [Std.Legacy.Range.forIn_eq_forIn_range']
  exact Wl.forIn_list _ _ hf b

theorem part_plain {t : TypeId} {cs : Array Value} {off : Nat} {w w₁ : World} {v : Value} (hr : (Go.part t cs off).run P w = .ok v w₁) (h : cs.all leafV = true) : plainV v = true := by
  unfold Go.part at hr
  rw [Sem.run_bind] at hr
  cases h1 : (Go.isAgg t).run P w with
  | halt x w2 => rw [h1] at hr; simp at hr
  | ok b w2 =>
    rw [h1, Result.andThen_ok] at hr
    cases b with
    | true =>
      simp only [if_true] at hr
      rw [Sem.run_bind] at hr
      cases h2 : (Go.sizeOf t).run P w2 with
      | halt x w3 => rw [h2] at hr; simp at hr
      | ok n w3 =>
        rw [h2, Result.andThen_ok, Sem.run_pure] at hr
        simp only [Result.ok.injEq] at hr
        rw [← hr.1]
        simp only [plainV, Array.all_eq_true] at h ⊢
        intro i hi
        simp only [Array.getElem_extract]
        exact h _ _
    | false =>
      simp only [Bool.false_eq_true, if_false] at hr
      split at hr
      · rename_i u hu
        rw [Sem.run_pure] at hr
        simp only [Result.ok.injEq] at hr
        rw [← hr.1]
        obtain ⟨hlt, he⟩ := Array.getElem?_eq_some_iff.1 hu
        rw [← he]
        exact plainV_leaf (Array.all_eq_true.1 h _ hlt)
      · exfalso
        have := Wl.stuck (P := P) (α := Value) "part: no such cell" w2 v w₁ hr
        simp [Go.stuck] at hr

theorem wl_equalIn_v : ∀ (n : Nat) (t : TypeId) (x y : Value), plainV x = true → plainV y = true → Wl P (Op.equalIn n t x y) := by
  intro n
  induction n with
  | zero => intro t x y _ _; exact Wl.unsupported _
  | succ n ih =>
    intro t x y hx hy
    unfold Op.equalIn
    refine Wl.bind (Wl.underlying t) fun d => ?_
    cases x <;> (first | (simp [plainV, leafV] at hx; done) | skip) <;> (cases y <;> (first | (simp [plainV, leafV] at hy; done) | skip))
    all_goals
      cases d <;> first
        | exact Wl.stuck _
        | exact Wl.pure _
        | (dsimp only; split <;> first | exact Wl.pure _ | exact Wl.stuck _)
        | skip
    case array k e =>
      rename_i xs ys
      dsimp only
      refine Wl.bind (Wl.sizeOf _) fun m => Wl.bind (Wl.forIn_range _ _ (fun a b => ?_) _) fun r => ?_
      · exact Wl.bind' (Wl.part _ _ _) fun v1 w w1 h1 => Wl.bind' (Wl.part _ _ _) fun v2 w2 w3 h2 => Wl.bind (ih _ _ _ (part_plain h1 hx) (part_plain h2 hy)) fun b => by split <;> exact Wl.pure _
      · split <;> exact Wl.pure _
    case struct fs =>
      rename_i xs ys
      dsimp only
      refine Wl.bind Wl.program fun p => ?_
      split
      · refine Wl.bind (Wl.unsupported _) fun _ => Wl.bind (Wl.forIn_array _ _ (fun f b => ?_) _) fun r => ?_
        · split
          · exact Wl.bind' (Wl.part _ _ _) fun v1 w w1 h1 => Wl.bind' (Wl.part _ _ _) fun v2 w2 w3 h2 => Wl.bind (ih _ _ _ (part_plain h1 hx) (part_plain h2 hy)) fun b => by split <;> exact Wl.pure _
          · exact Wl.pure _
        · split <;> exact Wl.pure _
      · refine Wl.bind (Wl.forIn_array _ _ (fun f b => ?_) _) fun r => ?_
        · split
          · exact Wl.bind' (Wl.part _ _ _) fun v1 w w1 h1 => Wl.bind' (Wl.part _ _ _) fun v2 w2 w3 h2 => Wl.bind (ih _ _ _ (part_plain h1 hx) (part_plain h2 hy)) fun b => by split <;> exact Wl.pure _
          · exact Wl.pure _
        · split <;> exact Wl.pure _

theorem wl_eqGuardIn_v : ∀ (n : Nat) (t : TypeId) (x y : Value), plainV x = true → plainV y = true → Wl P (Op.eqGuardIn n t x y) := by
  intro n
  induction n with
  | zero => intro t x y _ _; exact Wl.unsupported _
  | succ n ih =>
    intro t x y hx hy
    unfold Op.eqGuardIn
    refine Wl.bind (Wl.underlying t) fun d => ?_
    cases x <;> (first | (simp [plainV, leafV] at hx; done) | skip) <;> (cases y <;> (first | (simp [plainV, leafV] at hy; done) | skip))
    all_goals
      cases d <;> first
        | exact Wl.stuck _
        | exact Wl.pure _
        | (dsimp only; split <;> first | exact Wl.pure _ | exact Wl.stuck _)
        | skip
    case array k e =>
      rename_i xs ys
      dsimp only
      refine Wl.bind (Wl.sizeOf _) fun m => Wl.bind (Wl.forIn_range _ _ (fun a b => ?_) _) fun r => ?_
      · exact Wl.bind' (Wl.part _ _ _) fun v1 w w1 h1 => Wl.bind' (Wl.part _ _ _) fun v2 w2 w3 h2 => Wl.bind (ih _ _ _ (part_plain h1 hx) (part_plain h2 hy)) fun b => by split <;> exact Wl.pure _
      · split <;> exact Wl.pure _
    case struct fs =>
      rename_i xs ys
      dsimp only
      refine Wl.bind (Wl.forIn_array _ _ (fun f b => ?_) _) fun r => ?_
      · split
        · exact Wl.bind' (Wl.part _ _ _) fun v1 w w1 h1 => Wl.bind' (Wl.part _ _ _) fun v2 w2 w3 h2 => Wl.bind (ih _ _ _ (part_plain h1 hx) (part_plain h2 hy)) fun b => by split <;> exact Wl.pure _
        · exact Wl.pure _
      · split <;> exact Wl.pure _

end
end Go.Proofs.Ytejbeioiomjbpaa
