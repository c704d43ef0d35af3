/-
  A region that draws its order, within a round of a range over a function: where it calls no Go function.
-/
import Derived.Test.YtejbeioiomjbpaaMixC
import Derived.OrdersIn
import Derived.AtR
namespace Go.Proofs.Ytejbeioiomjbpaa
open Go

section
variable {P : Program} {ops : Array Oper} {N : Act → World → Prop} {F : Fence} {n : Nat} {md : Region.Mode} {Q : Exit → Act → World → Prop}

/-- The operation calls no Go function, and defers nothing. -/
def leafB (P : Program) (o : Op) : Bool := alB P o || bnB o || (match o with | .store .. => true | _ => false)

theorem leaf_vals (ρ : Operand → Value) (o : Oper) (h : leafB P o.op = true) (w : World) (x : Next) (w₁ : World) (hr : (execOp ρ o).run P w = .ok x w₁) : (∃ u, x = .value u) ∨ x = .skip := by
  simp only [leafB, Bool.or_eq_true] at h
  rcases h with (h | h) | h
  · exact .inl ((al_of ρ o h).2 _ _ _ hr)
  · obtain ⟨dst, op, type, pos, after, guard⟩ := o
    cases op <;> simp only [bnB, Bool.false_eq_true] at h
    case binOp => exact .inl (Vals.of _ _ _ _ hr)
    case unOp => exact .inl (Vals.of _ _ _ _ hr)
    case convert => exact .inl (Vals.of _ _ _ _ hr)
  · obtain ⟨dst, op, type, pos, after, guard⟩ := o
    cases op <;> simp only [Bool.false_eq_true] at h
    case store t a x =>
      right
      have hr' : (do Instr.storeAt t (ρ a) (ρ x); Pure.pure Next.skip : Sem Next).run P w = .ok _ w₁ := hr
      rw [Sem.run_bind] at hr'
      cases h2 : (Instr.storeAt t (ρ a) (ρ x)).run P w with
      | halt x w2 => rw [h2] at hr'; simp at hr'
      | ok b w2 => rw [h2, Result.andThen_ok] at hr'; simp at hr'; exact hr'.1.symm

theorem leaf_kind {o : Oper} (h : leafB P o.op = true) : (∀ c, o.op ≠ .defer c) ∧ ∀ c, o.op = .call c → ∃ b, c.callee = .builtin b := by
  obtain ⟨dst, op, type, pos, after, guard⟩ := o
  refine ⟨?_, ?_⟩
  · rintro c rfl
    simp [leafB, alB, rdB, wlB, bnB] at h
  · rintro c rfl
    obtain ⟨cal, args, ts⟩ := c
    cases cal with
    | builtin b => exact ⟨b, rfl⟩
    | value f => simp [leafB, alB, rdB, wlB, bnB] at h
    | invoke r m => simp [leafB, alB, rdB, wlB, bnB] at h

theorem leaf_about {o : Oper} (h : leafB P o.op = true) (w : World) (ρ : Operand → Value) : o.about P w ρ = none := by
  unfold Oper.about
  split
  · rename_i c hc
    obtain ⟨b, hb⟩ := (leaf_kind h).2 c hc
    simp only [resolve, hb]
    rfl
  · rfl

theorem wpIn_any_leaf (hl : ∀ (i : Nat) (o : Oper), ops[i]? = some o → leafB P o.op = true) (hN : ∀ a w, N a w → Q .normal a w) : ∀ (fuel : Nat) (listed : Array Bool) (a : Act) (w : World),
    wpAny P md ops (Only N) fuel listed a w → wpAnyIn F n P md ops Q fuel listed a w
  | 0, _, _, _, h => ⟨h.1, hN _ _ h.2⟩
  | fuel + 1, listed, a, w, h => by
    refine ⟨fun hr => hN _ _ (h.1 hr), fun i hi => ?_⟩
    have hh := h.2 i hi
    unfold wpOp at hh
    unfold wpOpIn
    cases ho : ops[i]? with
    | none => rw [ho] at hh; exact wpIn_any_leaf hl hN fuel _ _ _ hh
    | some o =>
      rw [ho] at hh
      have hlo := hl i o ho
      dsimp only at hh ⊢
      split
      · rename_i hw
        rw [if_pos hw] at hh
        rcases hh with hh | ⟨_, hh⟩
        case inr => exact absurd hh (only_lets N)
        unfold Oper.wpIn
        rw [Oper.semAt_eq _ _ _ (leaf_kind hlo).1]
        refine ⟨fun f hf => (by rw [leaf_about hlo] at hf; cases hf), ?_⟩
        unfold Oper.wp at hh
        cases hr : (execOp a.eval o).run P w with
        | ok x w' =>
          rw [hr] at hh
          rcases leaf_vals a.eval o hlo _ _ _ hr with ⟨u, rfl⟩ | rfl
          · exact wpIn_any_leaf hl hN fuel _ _ _ hh
          · exact wpIn_any_leaf hl hN fuel _ _ _ hh
        | halt x w' =>
          rw [hr] at hh
          cases x <;> exact hh.elim
      · rename_i hw
        rw [if_neg hw] at hh
        exact ⟨fun f hf => (by rw [leaf_about hlo] at hf; cases hf), wpIn_any_leaf hl hN fuel _ _ _ hh⟩

/-- **A region that draws its order, within a fence, walked once in the order of its text.** -/
theorem wpIn_mixp {id : Nat} {a : Act} {w : World} {l : List Oper} (hm : P.follows .mixedOrders = true) (hB : (mixB P l.toArray && l.all fun o => leafB P o.op) = true)
    (h : wpList P l.toArray (Exit.then (fun a' w' => plainB P l.toArray a' = true ∧ Q .normal a' w') (fun _ _ _ => False)) l a w.drew) : (Code.region id l.toArray true).wpIn F n P Q a w := by
  simp only [Bool.and_eq_true] at hB
  obtain ⟨hB, hl⟩ := hB
  simp only [mixB, Bool.and_eq_true] at hB
  refine wpIn_region_any hm ?_
  refine wpIn_any_leaf (N := fun a' w' => plainB P l.toArray a' = true ∧ Q .normal a' w') ?_ (fun _ _ h => h.2) _ _ _ _ ?_
  · intro i o ho
    simp only [List.all_eq_true] at hl
    refine hl o ?_
    rw [List.getElem?_toArray] at ho
    exact List.mem_of_getElem? ho
  · have := mix_lex (P := P) (ops := l.toArray) (N := fun a' w' => plainB P l.toArray a' = true ∧ Q .normal a' w') (md := .any) hB.1.1 (fun _ _ h => h.1) hB.1.2 l 0 (Array.replicate l.toArray.size false) a w.drew (by simp) (fun j oj _ hl => by
      have h0 : (Array.replicate l.toArray.size false).getD j false = false := by
        by_cases hj : j < l.length <;> simp [hj]
      rw [h0] at hl; cases hl) (by simpa using hB.2) h
    exact (by simpa using this)

/-- The same, what follows behind a name. -/
theorem wpIn_mixk {id : Nat} {a : Act} {w : World} {l : List Oper} (hm : P.follows .mixedOrders = true) (hB : (mixB P l.toArray && l.all fun o => leafB P o.op) = true)
    (h : ∀ K : Act → World → Prop, (∀ a' w', plainB P l.toArray a' = true ∧ Q .normal a' w' → K a' w') → wpList P l.toArray (Exit.then K (fun _ _ _ => False)) l a w.drew) : (Code.region id l.toArray true).wpIn F n P Q a w :=
  wpIn_mixp hm hB (h _ fun _ _ h => h)
theorem wp_mixk {id : Nat} {a : Act} {w : World} {l : List Oper} (hm : P.follows .mixedOrders = true) (hB : mixB P l.toArray = true)
    (h : ∀ K : Act → World → Prop, (∀ a' w', plainB P l.toArray a' = true ∧ Q .normal a' w' → K a' w') → wpList P l.toArray (Exit.then K (fun _ _ _ => False)) l a w.drew) : (Code.region id l.toArray true).wp P Q a w :=
  wp_mixp hm hB (h _ fun _ _ h => h)

end
end Go.Proofs.Ytejbeioiomjbpaa
