/-
  A slice of structs of whole numbers that came in, opened to its cells.
-/
import Derived.ProofKit
import Derived.OpenShut
import Derived.ChangeOld
import Derived.Deep.Slices
import Derived.Deep.Fields
import Derived.Test.YtejbeioiomjbpaaBase
namespace Go.Proofs.Ytejbeioiomjbpaa
open Go.ChangeShapes Go.WideShapes Go.Deep Go.RowKit

/-- A row of structs that came in: so many, each of whole numbers of the kinds ks. -/
def RowOf (ks : List IntKind) (w : World) (a : Option Addr) (n : Nat) (V : Nat → Nat → Int) : Prop :=
  n ≤ maxLen ∧ ∀ i < n, ∃ x, a = some x ∧ ∀ (j : Nat) (k : IntKind), ks[j]? = some k → w.cell? (x.add (i * ks.length + j)) = some (.int k (V i j)) ∧ (Lit.int k (V i j)).wf = true

section
variable {H : Type} {enc : TypeId × Value → H} {P : Program} {w : World} {base : Nat} {spare : Nat → Bool} {held : Bool}
theorem rowOf_open {t e : TypeId} {fs : Array Field} {ks : List IntKind} {a : Option Addr} {len cap : Nat} {d : DataW H} {p : List MemPlace} (ht : P.underlying t = some (.slice e)) (he : P.underlying e = some (.struct fs))
    (hone : oneCellFields P fs = true) (hC : P.cellsOf e = ks.length) (hsz : fs.size = ks.length) (hk : ∀ (j : Nat) (f : Field), fs[j]? = some f → ∃ k, ks[j]? = some k ∧ P.underlying f.type = some (.int k))
    (h : DataW.Trod enc P w base spare held t (.slice a len cap) d p) : ∃ V, RowOf ks w a len V := by
  obtain ⟨fuel, hf⟩ := h
  rcases open_slice ht hf with ⟨hcs, _⟩ | ⟨x, l, c, m, n, D, Pl, hcs, _, hl, hmx, hm, _, hi⟩
  · simp [Value.cells] at hcs
    obtain ⟨rfl, rfl, rfl⟩ := hcs
    exact ⟨fun _ _ => 0, Nat.zero_le _, fun i hi => by omega⟩
  · simp [Value.cells] at hcs
    obtain ⟨rfl, rfl, rfl⟩ := hcs
    have hlm : len ≤ m := by rw [hm]; split <;> omega
    have key : ∀ i j : Nat, ∃ v : Int, i < len → ∀ k, ks[j]? = some k → w.cell? (x.add (i * ks.length + j)) = some (.int k v) ∧ (Lit.int k v).wf = true := by
      intro i j
      by_cases hil : i < len
      · by_cases hjl : j < ks.length
        · obtain ⟨cs', h1, h2⟩ := hi i (by omega)
          rw [hC] at h1
          obtain ⟨ys, n', _, _, hlen, _, hfd⟩ := DataW.trod_struct he h2
          obtain ⟨_, hcl, hat⟩ := World.cells?_some h1
          have hj' : j < fs.size := by omega
          obtain ⟨k, hkj, hu⟩ := hk j fs[j] (Array.getElem?_eq_getElem hj')
          obtain ⟨ho, hc1⟩ := hone_of hone j fs[j] (Array.getElem?_eq_getElem hj')
          have hd := hfd j fs[j] (Array.getElem?_eq_getElem hj')
          rw [ho, hc1] at hd
          have hjc : j < cs'.length := by omega
          have h3 : (cs'.drop j).take 1 = [cs'[j]] := by rw [List.drop_eq_getElem_cons hjc]; rfl
          rw [h3] at hd
          have hyj : ∃ y, ys[j]? = some y := by
            cases hy : ys[j]? with
            | some y => exact ⟨y, rfl⟩
            | none =>
              have := List.getElem?_eq_none_iff.1 hy
              omega
          obtain ⟨y, hy⟩ := hyj
          rw [hy] at hd
          obtain ⟨v, hv, _, hw⟩ := DataW.trod_int hu hd
          simp at hv
          refine ⟨v, fun _ k' hk' => ?_⟩
          rw [hkj] at hk'; cases hk'
          refine ⟨?_, hw⟩
          rw [← Go.Deep.add_add, hat j hjl, List.getElem?_eq_getElem hjc, hv]
        · exact ⟨0, fun _ k hk' => by rw [List.getElem?_eq_none (by omega)] at hk'; cases hk'⟩
      · exact ⟨0, fun h => absurd h hil⟩
    exact ⟨fun i j => Classical.choose (key i j), by omega, fun i hil => ⟨x, rfl, fun j k hk' => Classical.choose_spec (key i j) hil k hk'⟩⟩
end

end Go.Proofs.Ytejbeioiomjbpaa
