/-
  SpinHolds, in plain Lean: what the arena and the list of holders are to each other, step by step.
-/
import Derived.Test.YtejbeioiomjbpaaSpinWorks
namespace Go.Proofs.Ytejbeioiomjbpaa
open Go.RowKit

/-- Locks allotted one after another. -/
theorem allot_more (L : Nat) (i : Nat) (h : i < L) : allot (some ⟨zeros i, L, [], 0⟩) 1 = (some (⟨zeros (i + 1), L, [], 0⟩ : Ar), (i : Int), (0 : Int)) := by
  simp only [allot, zeros, List.length_replicate]
  rw [if_neg (by omega), if_neg (by omega)]
  simp [List.replicate_succ', zeros]

structure Fits (A : Ar) (hs : List Int) (L : Nat) : Prop where
  len : A.cells.length = L
  hlen : hs.length = 4
  small : L ≤ 4
  lock : ∀ k < L, (A.val k = 0 ∧ hs[k]?.getD 0 < 0) ∨ (A.val k = 1 ∧ 0 ≤ hs[k]?.getD 0)

theorem does_val (A : Ar) (op : Int) (k : Nat) (v : Int) (d : Bool) (j : Nat) (hk : k < A.cells.length) : (A.does op k v d).val j = if j = k then v else A.val j := by
  simp only [Ar.does, Ar.noted, Ar.val]
  by_cases h : j = k
  · subst h; simp [hk]
  · rw [if_neg h, List.getElem?_set_ne (by omega)]
theorem does_len (A : Ar) (op : Int) (k : Nat) (v : Int) (d : Bool) : (A.does op k v d).cells.length = A.cells.length := by simp [Ar.does, Ar.noted]
theorem does_many (A : Ar) (op : Int) (k : Nat) (v : Int) (d : Bool) : (A.does op k v d).many = A.many + 1 := by simp [Ar.does, Ar.noted]

/-- Who holds it frees it. -/
theorem fits_free {A : Ar} {hs : List Int} {L : Nat} (h : Fits A hs L) {k : Nat} (hk : k < L) (hh : 0 ≤ hs[k]?.getD 0) :
    ∃ B, freed (some A) k = (some B, 1, true, 0) ∧ freedErr (some A) k = 0 ∧ Fits B (hs.set k (-1)) L ∧ B.many = A.many + 1 := by
  have h1 : A.val k = 1 := by rcases h.lock k hk with h1 | h1 <;> omega
  have e : freed (some A) k = (some (A.does 3 k 0 true), 1, true, 0) := by
    unfold freed
    rw [acc_ok A 3 k _ (by rw [h.len]; exact hk), h1]
    simp [fSwap]
  refine ⟨_, e, by unfold freedErr; rw [e]; simp, ⟨by rw [does_len]; exact h.len, by simp [h.hlen], h.small, fun j hj => ?_⟩, does_many _ _ _ _ _⟩
  rw [does_val _ _ _ _ _ _ (by rw [h.len]; exact hk)]
  by_cases hjk : j = k
  · subst hjk
    left; rw [if_pos rfl]; simp [h.hlen, Nat.lt_of_lt_of_le hj h.small]
  · rw [if_neg hjk, List.getElem?_set_ne (by omega)]
    exact h.lock j hj

/-- A try of a lock that is free. -/
theorem fits_try {A : Ar} {hs : List Int} {L : Nat} (h : Fits A hs L) {k : Nat} (hk : k < L) (hh : hs[k]?.getD 0 < 0) (t : Int) (ht : 0 ≤ t) :
    ∃ B C, tried (some A) k = (some B, 0, true, 0) ∧ looked (some B) k = (some C, 1, true, 0) ∧ heldOf (some B) k = true ∧ Fits C (hs.set k t) L ∧ B.many = A.many + 1 ∧ C.many = A.many + 2 := by
  have h1 : A.val k = 0 := by rcases h.lock k hk with h1 | h1 <;> omega
  have hkl : k < A.cells.length := by rw [h.len]; exact hk
  have e : tried (some A) k = (some (A.does 3 k 1 true), 0, true, 0) := by
    unfold tried
    rw [acc_ok A 3 k _ hkl, h1]
    simp [fSwap]
  have hv : (A.does 3 k 1 true).val k = 1 := by rw [does_val _ _ _ _ _ _ hkl, if_pos rfl]
  have e2 : looked (some (A.does 3 k 1 true)) k = (some ((A.does 3 k 1 true).does 1 k 1 true), 1, true, 0) := by
    unfold looked
    rw [acc_ok _ 1 k _ (by rw [does_len]; exact hkl), hv]
    simp [fLoad]
  refine ⟨_, _, e, e2, by rw [heldOf_eq, e2]; rfl, ⟨by rw [does_len, does_len]; exact h.len, by simp [h.hlen], h.small, fun j hj => ?_⟩, does_many _ _ _ _ _, by rw [does_many, does_many]⟩
  rw [does_val _ _ _ _ _ _ (by rw [does_len]; exact hkl), does_val _ _ _ _ _ _ hkl]
  by_cases hjk : j = k
  · subst hjk
    right; rw [if_pos rfl]; simp [h.hlen, Nat.lt_of_lt_of_le hj h.small, ht]
  · rw [if_neg hjk, if_neg hjk, List.getElem?_set_ne (by omega)]
    exact h.lock j hj

/-- A try of a lock that is held. -/
theorem fits_miss {A : Ar} {hs : List Int} {L : Nat} (h : Fits A hs L) {k : Nat} (hk : k < L) (hh : 0 ≤ hs[k]?.getD 0) :
    ∃ B C, tried (some A) k = (some B, 1, false, 0) ∧ looked (some B) k = (some C, 1, true, 0) ∧ heldOf (some B) k = true ∧ Fits C hs L ∧ B.many = A.many + 1 ∧ C.many = A.many + 2 := by
  have h1 : A.val k = 1 := by rcases h.lock k hk with h1 | h1 <;> omega
  have hkl : k < A.cells.length := by rw [h.len]; exact hk
  have e : tried (some A) k = (some (A.does 3 k 1 false), 1, false, 0) := by
    unfold tried
    rw [acc_ok A 3 k _ hkl, h1]
    simp [fSwap]
  have hv : (A.does 3 k 1 false).val k = 1 := by rw [does_val _ _ _ _ _ _ hkl, if_pos rfl]
  have e2 : looked (some (A.does 3 k 1 false)) k = (some ((A.does 3 k 1 false).does 1 k 1 true), 1, true, 0) := by
    unfold looked
    rw [acc_ok _ 1 k _ (by rw [does_len]; exact hkl), hv]
    simp [fLoad]
  refine ⟨_, _, e, e2, by rw [heldOf_eq, e2]; rfl, ⟨by rw [does_len, does_len]; exact h.len, h.hlen, h.small, fun j hj => ?_⟩, does_many _ _ _ _ _, by rw [does_many, does_many]⟩
  rw [does_val _ _ _ _ _ _ (by rw [does_len]; exact hkl), does_val _ _ _ _ _ _ hkl]
  by_cases hjk : j = k
  · subst hjk
    right; rw [if_pos rfl]; exact ⟨rfl, hh⟩
  · rw [if_neg hjk, if_neg hjk]
    exact h.lock j hj

theorem fits_start (L : Nat) (h : L ≤ 4) : Fits ⟨zeros L, L, [], 0⟩ [-1, -1, -1, -1] L := by
  refine ⟨by simp [zeros], rfl, h, fun k hk => .inl ⟨?_, ?_⟩⟩
  · simp [Ar.val, zeros, hk]
  · have : k < 4 := by omega
    rcases k with _ | _ | _ | _ | k <;> simp <;> omega

end Go.Proofs.Ytejbeioiomjbpaa
