/-
  CellHolds, in plain Lean: the log is a chain, and the cells are what it leaves.
-/
import Derived.Test.YtejbeioiomjbpaaCellAny
namespace Go.Proofs.Ytejbeioiomjbpaa
open Go.RowKit

/-- What the cells hold behind accesses, from n zeros on. -/
def replay (n : Nat) (l : List Acc) : List Int := l.foldl (fun h x => h.set x.at_.toNat x.new) (zeros n)

theorem replay_snoc (n : Nat) (l : List Acc) (x : Acc) : replay n (l ++ [x]) = (replay n l).set x.at_.toNat x.new := by simp [replay]
theorem replay_length (n : Nat) (l : List Acc) : (replay n l).length = n := by
  have key : ∀ (l : List Acc) (h : List Int), (l.foldl (fun h x => h.set x.at_.toNat x.new) h).length = h.length := by
    intro l
    induction l with
    | nil => intro h; rfl
    | cons x l ih => intro h; rw [List.foldl_cons, ih]; simp
  rw [replay, key]; simp [zeros]

/-- An access that fits what the cells held ahead of it; q is the number that was asked for. -/
structure FitsAt (n : Nat) (h : List Int) (x : Acc) (q : Int) : Prop where
  lo : 0 ≤ x.at_
  hi : x.at_ < n
  old : x.old = h[x.at_.toNat]?.getD 0
  did : x.did = (x.op != 3 || x.old == q)
  new : (x.op == 1 || !x.did) = true → x.new = x.old
  op : 1 ≤ x.op ∧ x.op ≤ 4

structure Chain (n : Nat) (A : Ar) (q : List Int) : Prop where
  cells : A.cells = replay n A.ring
  many : A.many = A.ring.length
  asked : q.length = A.ring.length
  each : ∀ (m : Nat) (x : Acc), A.ring[m]? = some x → FitsAt n (replay n (A.ring.take m)) x (q[m]?.getD 0)

theorem Chain.length {n : Nat} {A : Ar} {asked : List Int} (h : Chain n A asked) : A.cells.length = n := by rw [h.cells, replay_length]

/-- One access more. -/
theorem Chain.does {n : Nat} {A : Ar} {asked : List Int} (h : Chain n A asked) (hm : A.many < 1024) (op : Int) (hop : 1 ≤ op ∧ op ≤ 4) (k : Nat) (hk : k < n) (v : Int) (d : Bool) (q : Int)
    (hd : d = (op != 3 || A.val k == q)) (hv : (op == 1 || !d) = true → v = A.val k) : Chain n (A.does op k v d) (asked ++ [q]) := by
  have hr : (A.does op k v d).ring = A.ring ++ [⟨op, k, A.val k, v, d⟩] := by
    simp only [Ar.does, Ar.noted, putRing]
    rw [if_pos (by have := h.many; omega)]
    rfl
  have hc : (A.does op k v d).cells = A.cells.set k v := by simp [Ar.does, Ar.noted]
  have hn : (A.does op k v d).many = A.many + 1 := by simp [Ar.does, Ar.noted]
  refine ⟨?_, ?_, ?_, ?_⟩
  · rw [hc, hr, replay_snoc, h.cells]; rfl
  · rw [hn, hr, h.many]; simp
  · rw [hr]; simp [h.asked]
  · intro m x hx
    rw [hr] at hx ⊢
    by_cases hlt : m < A.ring.length
    · rw [List.getElem?_append_left hlt] at hx
      rw [List.take_append_of_le_length (by omega), List.getElem?_append_left (by have := h.asked; omega)]
      exact h.each m x hx
    · have hm' : m = A.ring.length := by
        have := (List.getElem?_eq_some_iff.1 hx).1
        simp at this
        omega
      subst hm'
      rw [List.getElem?_append_right (Nat.le_refl _)] at hx
      simp at hx
      subst hx
      rw [List.take_append_of_le_length (Nat.le_refl _), List.take_length, List.getElem?_append_right (by have := h.asked; omega), ← h.cells]
      refine ⟨by simp, by simpa using hk, by simp [Ar.val], ?_, hv, hop⟩
      simp only [h.asked, Nat.sub_self, List.getElem?_cons_zero, Option.getD_some]
      exact hd

theorem Chain.start (n m : Nat) : Chain n ⟨zeros n, m, [], 0⟩ [] := ⟨rfl, rfl, rfl, fun m x h => by simp at h⟩

end Go.Proofs.Ytejbeioiomjbpaa
