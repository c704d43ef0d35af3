/-
  The arena's methods, each told once: at an arena or none, at any place.
-/
import Derived.Test.YtejbeioiomjbpaaCellAlloc2
import Derived.Test.YtejbeioiomjbpaaCellCopy
namespace Go.Proofs.Ytejbeioiomjbpaa
open Go.RowKit

/-- The block that a pointer points to. -/
def ptrBlock : Value → List Nat
  | .pointer (some a) => [a.block]
  | _ => []

/-- The value v is the arena X, or none; S are its blocks. -/
def Mem (w : World) (v : Value) (X : Option Ar) (S : List Nat) : Prop :=
  match X with
  | none => NoArena w v ∧ S = ptrBlock v
  | some A => ∃ p, v = .pointer (some ⟨p, 0, none⟩) ∧ IsArena w p A S

theorem Mem.keep {w w' : World} {v : Value} {X : Option Ar} {S : List Nat} (h : Mem w v X S) (hk : Keeps Nothing w w') : Mem w' v X S := by
  cases X with
  | none => exact ⟨h.1.keep hk, h.2⟩
  | some A => obtain ⟨p, hp, h⟩ := h; exact ⟨p, hp, h.frame hk fun _ _ => id⟩
theorem Mem.alloc {w : World} {v : Value} {X : Option Ar} {S : List Nat} (h : Mem w v X S) (o : Obj) : Mem (w.alloc o) v X S := h.keep ((Keeps.refl _ _).alloc _)
theorem Mem.drew {w : World} {v : Value} {X : Option Ar} {S : List Nat} (h : Mem w v X S) : Mem w.drew v X S := h.keep (Keeps.refl _ _).drew
theorem Mem.lt {w : World} {v : Value} {X : Option Ar} {S : List Nat} (h : Mem w v X S) : ∀ k ∈ S, k < w.heap.size := by
  cases X with
  | none =>
    rcases h with ⟨rfl | ⟨p, v0, v1, v2, rfl, hb⟩, rfl⟩
    · simp [ptrBlock]
    · simp only [ptrBlock, List.mem_singleton]; rintro k rfl; exact hb.lt
  | some A => obtain ⟨p, _, h⟩ := h; exact h.lt
theorem Mem.frame {w w' : World} {v : Value} {X : Option Ar} {S : List Nat} (h : Mem w v X S) (hk : ∀ k ∈ S, w'.heap[k]? = w.heap[k]?) : Mem w' v X S := by
  cases X with
  | none =>
    rcases h with ⟨rfl | ⟨p, v0, v1, v2, rfl, hb⟩, rfl⟩
    · exact ⟨.inl rfl, rfl⟩
    · exact ⟨.inr ⟨p, v0, v1, v2, rfl, (hk p (by simp [ptrBlock])).trans hb⟩, rfl⟩
  | some A => obtain ⟨p, rfl, h⟩ := h; exact ⟨p, rfl, h.keep hk⟩
theorem Turn.of_keeps {S : List Nat} {w w' : World} (h : Keeps Nothing w w') : Turn S S w w' := ⟨h.nothing, fun _ hk => .inl hk⟩

/-- There is room for one access more. -/
def Few (X : Option Ar) (n : Nat) : Prop := ∀ A, X = some A → A.many + n < 4611686018427387904

theorem Few.le {X : Option Ar} {m n : Nat} (h : Few X n) (hm : m ≤ n) : Few X m := fun A e => by have := h A e; omega

def Ar.val (A : Ar) (k : Nat) : Int := A.cells[k]?.getD 0

/-- An access by a function: what there is then, what the cell had, whether it was done, an error. -/
def acc (X : Option Ar) (op k : Int) (f : Int → Int × Bool) : Option Ar × Int × Bool × Int :=
  match X with
  | none => (none, 0, false, 1)
  | some A => if 0 ≤ k ∧ k < A.cells.length then (some (A.does op k.toNat (f (A.val k.toNat)).1 (f (A.val k.toNat)).2), A.val k.toNat, (f (A.val k.toNat)).2, 0) else (some A, 0, false, 4)

theorem acc_ok (A : Ar) (op : Int) (k : Nat) (f : Int → Int × Bool) (h : k < A.cells.length) : acc (some A) op k f = (some (A.does op k (f (A.val k)).1 (f (A.val k)).2), A.val k, (f (A.val k)).2, 0) := by
  simp [acc, h]
theorem acc_out (A : Ar) (op k : Int) (f : Int → Int × Bool) (h : k < 0 ∨ A.cells.length ≤ k) : acc (some A) op k f = (some A, 0, false, 4) := by
  simp only [acc]; rw [if_neg (by omega)]
theorem acc_few {X : Option Ar} {op k : Int} {f : Int → Int × Bool} {n : Nat} (h : Few X (n + 1)) : Few (acc X op k f).1 n := by
  intro A e
  cases X with
  | none => simp [acc] at e
  | some B =>
    have := h B rfl
    simp only [acc] at e
    split at e <;> simp at e <;> subst e
    · simp [Ar.does, Ar.noted]; omega
    · omega

def fLoad : Int → Int × Bool := fun o => (o, true)
def fStore (v : Int) : Int → Int × Bool := fun _ => (v, true)
def fSwap (a b : Int) : Int → Int × Bool := fun o => (if o = a then b else o, decide (o = a))
def fAdd (n : Int) : Int → Int × Bool := fun o => (addU o n, true)

theorem Load_any (v : Value) (X : Option Ar) (S : List Nat) (k : Int) (w : World) (h : Mem w v X S) (hm : Few X 1) :
    Calls Try.prog 22 #[v, .int .i64 k] w fun e w' => e = .returned (.tuple #[.int .u64 (acc X 1 k fLoad).2.1, .int .i64 (acc X 1 k fLoad).2.2.2]) ∧
      ∃ S', Mem w' v (acc X 1 k fLoad).1 S' ∧ Turn S S' w w' := by
  cases X with
  | none => exact (Load_none v k w h.1).mono fun e w' ⟨he, hk⟩ => ⟨he, S, Mem.keep h hk, .of_keeps hk⟩
  | some A =>
    have hm := hm A rfl
    obtain ⟨p, rfl, h⟩ := h
    by_cases hk : 0 ≤ k ∧ k < A.cells.length
    · obtain ⟨j, rfl⟩ : ∃ j : Nat, k = j := ⟨k.toNat, by omega⟩
      rw [acc_ok A 1 j fLoad (by omega)]
      exact (Load_ok p A S j w h (by omega) hm).mono fun e w' ⟨he, S', ha, ht⟩ => ⟨he, S', ⟨p, rfl, ha⟩, ht⟩
    · rw [acc_out A 1 k fLoad (by omega)]
      exact (Load_range p A S k w h (by omega)).mono fun e w' ⟨he, hk⟩ => ⟨he, S, ⟨p, rfl, h.frame hk fun _ _ => id⟩, .of_keeps hk⟩

theorem Store_any (v : Value) (X : Option Ar) (S : List Nat) (k a : Int) (w : World) (h : Mem w v X S) (hm : Few X 1) (ha : 0 ≤ a ∧ a < 18446744073709551616) :
    Calls Try.prog 23 #[v, .int .i64 k, .int .u64 a] w fun e w' => e = .returned (.int .i64 (acc X 2 k (fStore a)).2.2.2) ∧
      ∃ S', Mem w' v (acc X 2 k (fStore a)).1 S' ∧ Turn S S' w w' := by
  cases X with
  | none => exact (Store_none v k a w h.1).mono fun e w' ⟨he, hk⟩ => ⟨he, S, Mem.keep h hk, .of_keeps hk⟩
  | some A =>
    have hm := hm A rfl
    obtain ⟨p, rfl, h⟩ := h
    by_cases hk : 0 ≤ k ∧ k < A.cells.length
    · obtain ⟨j, rfl⟩ : ∃ j : Nat, k = j := ⟨k.toNat, by omega⟩
      rw [acc_ok A 2 j (fStore a) (by omega)]
      exact (Store_ok p A S j a w h (by omega) hm ha).mono fun e w' ⟨he, S', ha, ht⟩ => ⟨he, S', ⟨p, rfl, ha⟩, ht⟩
    · rw [acc_out A 2 k (fStore a) (by omega)]
      exact (Store_range p A S k a w h (by omega)).mono fun e w' ⟨he, hk⟩ => ⟨he, S, ⟨p, rfl, h.frame hk fun _ _ => id⟩, .of_keeps hk⟩

theorem Swap_any (v : Value) (X : Option Ar) (S : List Nat) (k a b : Int) (w : World) (h : Mem w v X S) (hm : Few X 1) (hb : 0 ≤ b ∧ b < 18446744073709551616) :
    Calls Try.prog 24 #[v, .int .i64 k, .int .u64 a, .int .u64 b] w fun e w' =>
      e = .returned (.tuple #[.int .u64 (acc X 3 k (fSwap a b)).2.1, .bool (acc X 3 k (fSwap a b)).2.2.1, .int .i64 (acc X 3 k (fSwap a b)).2.2.2]) ∧
      ∃ S', Mem w' v (acc X 3 k (fSwap a b)).1 S' ∧ Turn S S' w w' := by
  cases X with
  | none => exact (Swap_none v k a b w h.1).mono fun e w' ⟨he, hk⟩ => ⟨he, S, Mem.keep h hk, .of_keeps hk⟩
  | some A =>
    have hm := hm A rfl
    obtain ⟨p, rfl, h⟩ := h
    by_cases hk : 0 ≤ k ∧ k < A.cells.length
    · obtain ⟨j, rfl⟩ : ∃ j : Nat, k = j := ⟨k.toNat, by omega⟩
      rw [acc_ok A 3 j (fSwap a b) (by omega)]
      exact (Swap_ok p A S j a b w h (by omega) hm hb).mono fun e w' ⟨he, S', ha, ht⟩ => ⟨he, S', ⟨p, rfl, ha⟩, ht⟩
    · rw [acc_out A 3 k (fSwap a b) (by omega)]
      exact (Swap_range p A S k a b w h (by omega)).mono fun e w' ⟨he, hk⟩ => ⟨he, S, ⟨p, rfl, h.frame hk fun _ _ => id⟩, .of_keeps hk⟩

theorem Add_any (v : Value) (X : Option Ar) (S : List Nat) (k a : Int) (w : World) (h : Mem w v X S) (hm : Few X 1) :
    Calls Try.prog 25 #[v, .int .i64 k, .int .u64 a] w fun e w' => e = .returned (.tuple #[.int .u64 (acc X 4 k (fAdd a)).2.1, .int .i64 (acc X 4 k (fAdd a)).2.2.2]) ∧
      ∃ S', Mem w' v (acc X 4 k (fAdd a)).1 S' ∧ Turn S S' w w' := by
  cases X with
  | none => exact (Add_none v k a w h.1).mono fun e w' ⟨he, hk⟩ => ⟨he, S, Mem.keep h hk, .of_keeps hk⟩
  | some A =>
    have hm := hm A rfl
    obtain ⟨p, rfl, h⟩ := h
    by_cases hk : 0 ≤ k ∧ k < A.cells.length
    · obtain ⟨j, rfl⟩ : ∃ j : Nat, k = j := ⟨k.toNat, by omega⟩
      rw [acc_ok A 4 j (fAdd a) (by omega)]
      exact (Add_ok p A S j a w h (by omega) hm).mono fun e w' ⟨he, S', ha, ht⟩ => ⟨he, S', ⟨p, rfl, ha⟩, ht⟩
    · rw [acc_out A 4 k (fAdd a) (by omega)]
      exact (Add_range p A S k a w h (by omega)).mono fun e w' ⟨he, hk⟩ => ⟨he, S, ⟨p, rfl, h.frame hk fun _ _ => id⟩, .of_keeps hk⟩

/-- Allotting: what there is then, the place, an error. -/
def allot (X : Option Ar) (n : Int) : Option Ar × Int × Int :=
  match X with
  | none => (none, 0, 1)
  | some A => if n < 0 then (some A, 0, 2) else if A.most - A.cells.length < n then (some A, 0, 6) else (some { A with cells := A.cells ++ zeros n.toNat }, A.cells.length, 0)

theorem allot_few {X : Option Ar} {n : Int} {m : Nat} (h : Few X m) : Few (allot X n).1 m := by
  intro A e
  cases X with
  | none => simp [allot] at e
  | some B =>
    have := h B rfl
    simp only [allot] at e
    split at e
    · simp at e; subst e; omega
    · split at e <;> simp at e <;> subst e <;> simp <;> omega

theorem Alloc_any (v : Value) (X : Option Ar) (S : List Nat) (n : Int) (w : World) (h : Mem w v X S) :
    Calls Try.prog 21 #[v, .int .i64 n] w fun e w' => e = .returned (.tuple #[.int .i64 (allot X n).2.1, .int .i64 (allot X n).2.2]) ∧
      ∃ S', Mem w' v (allot X n).1 S' ∧ Turn S S' w w' := by
  cases X with
  | none => exact (Alloc_none v n w h.1).mono fun e w' ⟨he, hk⟩ => ⟨he, S, Mem.keep h hk, .of_keeps hk⟩
  | some A =>
    obtain ⟨p, rfl, h⟩ := h
    simp only [allot]
    split
    · exact (Alloc_neg p A S n w h (by omega)).mono fun e w' ⟨he, hk⟩ => ⟨he, S, ⟨p, rfl, h.frame hk fun _ _ => id⟩, .of_keeps hk⟩
    · split
      · exact (Alloc_full p A S n w h (by omega) (by omega)).mono fun e w' ⟨he, hk⟩ => ⟨he, S, ⟨p, rfl, h.frame hk fun _ _ => id⟩, .of_keeps hk⟩
      · obtain ⟨j, rfl⟩ : ∃ j : Nat, n = j := ⟨n.toNat, by omega⟩
        exact (Alloc_ok p A S j w h (by omega)).mono fun e w' ⟨he, S', ha, ht⟩ => ⟨he, S', ⟨p, rfl, by simpa using ha⟩, ht⟩

def lenOf (X : Option Ar) : Int := match X with | none => 0 | some A => A.cells.length
def mostOf (X : Option Ar) : Int := match X with | none => 0 | some A => A.most
def countOf (X : Option Ar) : Int := match X with | none => 0 | some A => A.many

theorem Len_any {v : Value} {X : Option Ar} {S : List Nat} {w : World} (h : Mem w v X S) :
    Calls Try.prog 46 #[v] w fun e w' => e = .returned (.int .i64 (lenOf X)) ∧ w = w' := by
  cases X with
  | none => exact Len_none h.1
  | some A => obtain ⟨p, rfl, h⟩ := h; exact Len_ok h
theorem Most_any {v : Value} {X : Option Ar} {S : List Nat} {w : World} (h : Mem w v X S) :
    Calls Try.prog 47 #[v] w fun e w' => e = .returned (.int .i64 (mostOf X)) ∧ w = w' := by
  cases X with
  | none => exact Most_none h.1
  | some A => obtain ⟨p, rfl, h⟩ := h; exact Most_ok h
theorem Count_any {v : Value} {X : Option Ar} {S : List Nat} {w : World} (h : Mem w v X S) :
    Calls Try.prog 26 #[v] w fun e w' => e = .returned (.int .u64 (countOf X)) ∧ w = w' := by
  cases X with
  | none => exact Count_none h.1
  | some A => obtain ⟨p, rfl, h⟩ := h; exact Count_ok h

/-- A copy: of none nil; of an arena another one. -/
theorem Copy_any (v : Value) (X : Option Ar) (S : List Nat) (w : World) (h : Mem w v X S) :
    Calls Try.prog 48 #[v] w fun e w' => ∃ u T, e = .returned u ∧ Mem w' u X T ∧ (∀ k ∈ T, w.heap.size ≤ k) ∧ Keeps Nothing w w' ∧ (X = none ∧ u = .pointer none ∨ X ≠ none ∧ ∃ q, u = .pointer (some ⟨q, 0, none⟩)) := by
  cases X with
  | none => exact (Copy_none v w h.1).mono fun e w' ⟨he, hk⟩ => ⟨_, [], he, ⟨.inl rfl, rfl⟩, by simp, hk, .inl ⟨rfl, rfl⟩⟩
  | some A =>
    obtain ⟨p, rfl, h⟩ := h
    exact (Copy_ok p A S w h).mono fun e w' ⟨q, T, he, ha, hn, hk⟩ => ⟨_, T, he, ⟨q, rfl, ha⟩, hn, hk, .inr ⟨by simp, q, rfl⟩⟩

def newOf (m : Int) : Option Ar × Int := if 1 ≤ m ∧ m ≤ 65536 then (some ⟨[], m, [], 0⟩, 0) else (none, 2)

theorem New_any (m : Int) (w : World) :
    Calls Try.prog 14 #[.int .i64 m] w fun e w' => ∃ v S, e = .returned (.tuple #[v, .int .i64 (newOf m).2]) ∧ Mem w' v (newOf m).1 S ∧ (∀ k ∈ S, w.heap.size ≤ k) ∧ Keeps Nothing w w' ∧
      ((newOf m).1 = none ∧ v = .pointer none ∨ (newOf m).1 ≠ none ∧ ∃ q, v = .pointer (some ⟨q, 0, none⟩)) := by
  unfold newOf
  split
  · exact (New_ok m (by omega) (by omega) w).mono fun e w' ⟨p, he, ha, hp, hk⟩ => ⟨_, [p], he, ⟨p, rfl, ha⟩, by simpa using hp, hk, .inr ⟨by simp, p, rfl⟩⟩
  · exact (New_bad m (by omega) w).mono fun e w' ⟨he, hk⟩ => ⟨_, [], he, ⟨.inl rfl, rfl⟩, by simp, hk, .inl ⟨rfl, rfl⟩⟩

end Go.Proofs.Ytejbeioiomjbpaa
