/-
  The law of layer 1: act, whole; and what it leaves, in plain Lean.
-/
import Derived.Test.YtejbeioiomjbpaaAct3
import Derived.Test.YtejbeioiomjbpaaAct4
namespace Go.Proofs.Ytejbeioiomjbpaa
open Go.RowKit Go.Shelf

theorem act01_ok (v u : Value) (A : Ar) (L : List Acc) (S : List Nat) (what k x y : Int) (w : World) (h : Pair w v u A L S) (hL : L.length ≤ 65536) (hf : A.many + 1 < 4611686018427387904)
    (hx : 0 ≤ x ∧ x < 18446744073709551616) (hy : 0 ≤ y ∧ y < 18446744073709551616) :
    Calls Try.prog 30 #[v, u, .agg #[.int .i64 what, .int .i64 k, .int .u64 x, .int .u64 y]] w fun e w' => ∃ v' u' S', e = .returned (.tuple #[v', u', .bool true]) ∧
      Pair w' v' u' (actOf A what k x y).1 (L ++ (actOf A what k x y).2) S' ∧ Turn S S' w w' ∧ (∀ k ∈ refBlocks u', k ∈ refBlocks u ∨ w.heap.size ≤ k) := by
  obtain ⟨p, hp, hA⟩ := h.mem
  have hok := hA.1
  have hb : A.cells.length ≤ 65536 := by have := hok.fits; have := hok.most2; omega
  have hm : 0 ≤ A.most ∧ A.most ≤ 65536 := by have := hok.most1; have := hok.most2; omega
  have hv : ∃ a, v = .pointer a := ⟨_, hp⟩
  by_cases q0 : what = 0
  · subst q0
    refine (act01_alloc v u A L S k x y w h hb hm hv).mono ?_
    rintro e w' ⟨u', A', S', rfl, hA', hp', ht, hbl⟩
    refine ⟨v, u', S', rfl, ?_, ht, hbl⟩
    simpa [actOf, hA'] using hp'
  by_cases q1 : what = 1
  · subst q1
    refine (act01_load v u A L S k x y w h hb hL hf hv).mono ?_
    rintro e w' ⟨u', A', S', rfl, hA', hp', ht, hbl⟩
    refine ⟨v, u', S', rfl, ?_, ht, hbl⟩
    simpa [actOf, hA'] using hp'
  by_cases q2 : what = 2
  · subst q2
    refine (act01_store v u A L S k x y w h hb hL hf hx hy hv).mono ?_
    rintro e w' ⟨u', A', S', rfl, hA', hp', ht, hbl⟩
    refine ⟨v, u', S', rfl, ?_, ht, hbl⟩
    simpa [actOf, hA'] using hp'
  by_cases q3 : what = 3
  · subst q3
    refine (act01_swap3 v u A L S k x y w h hb hL hf hx hy hv).mono ?_
    rintro e w' ⟨u', A', S', rfl, hA', hp', ht, hbl⟩
    refine ⟨v, u', S', rfl, ?_, ht, hbl⟩
    simpa [actOf, hA'] using hp'
  by_cases q4 : what = 4
  · subst q4
    refine (act01_swap4 v u A L S k x y w h hb hL hf hx hy hv).mono ?_
    rintro e w' ⟨u', A', S', rfl, hA', hp', ht, hbl⟩
    refine ⟨v, u', S', rfl, ?_, ht, hbl⟩
    simpa [actOf, hA'] using hp'
  by_cases q5 : what = 5
  · subst q5
    refine (act01_add v u A L S k x y w h hb hL hf hx hy hv).mono ?_
    rintro e w' ⟨u', A', S', rfl, hA', hp', ht, hbl⟩
    refine ⟨v, u', S', rfl, ?_, ht, hbl⟩
    simpa [actOf, hA'] using hp'
  refine (act01_copy v u A L S what k x y w h hv q0 q1 q2 q3 q4 q5).mono ?_
  rintro e w' ⟨v', S', rfl, _, hp', ht⟩
  refine ⟨v', u, S', rfl, ?_, ht, fun k hk => .inl hk⟩
  simpa [actOf, q0, q1, q2, q3, q4, q5] using hp'

/-- The document's accesses are those of the ring, which is not full. -/
structure InStep (A : Ar) (L : List Acc) (j : Nat) : Prop where
  ring : L = A.ring
  many : A.many = L.length
  most : A.many ≤ j

theorem acc_step (A : Ar) (L : List Acc) (j : Nat) (op k : Int) (f : Int → Int × Bool) (h : InStep A L j) (hj : j < 1024) : InStep (((acc (some A) op k f).1).getD A) (L ++ noteOf A op k f) (j + 1) := by
  obtain ⟨rfl, h2, h3⟩ := h
  simp only [acc, noteOf]
  split
  · rename_i hk
    have e : ((k.toNat : Nat) : Int) = k := Int.toNat_of_nonneg hk.1
    refine ⟨?_, ?_, ?_⟩
    · simp only [Option.getD_some, Ar.does, Ar.noted, putRing]
      rw [if_pos (by omega)]
      simp [Ar.val, e]
    · simp [Ar.does, Ar.noted]; omega
    · simp [Ar.does, Ar.noted]; omega
  · exact ⟨by simp, by simpa using h2, by simp; omega⟩

theorem act_step (A : Ar) (L : List Acc) (j : Nat) (what k x y : Int) (h : InStep A L j) (hj : j < 1024) : InStep (actOf A what k x y).1 (L ++ (actOf A what k x y).2) (j + 1) := by
  unfold actOf
  split
  · obtain ⟨h1, h2, h3⟩ := h
    simp only [allot]
    split
    · exact ⟨by simpa using h1, by simpa using h2, by simp; omega⟩
    · split
      · exact ⟨by simpa using h1, by simpa using h2, by simp; omega⟩
      · exact ⟨by simpa using h1, by simpa using h2, by simp; omega⟩
  · split
    · exact acc_step A L j _ _ _ h hj
    · split
      · exact acc_step A L j _ _ _ h hj
      · split
        · exact acc_step A L j _ _ _ h hj
        · split
          · exact acc_step A L j _ _ _ h hj
          · exact ⟨by simpa using h.ring, by simpa using h.many, by have := h.most; simp; omega⟩

end Go.Proofs.Ytejbeioiomjbpaa
