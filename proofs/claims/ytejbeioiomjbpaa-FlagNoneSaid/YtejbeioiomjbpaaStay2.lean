/-
  More blocks of one's own at once; rows of one's own set.
-/
import Derived.Test.YtejbeioiomjbpaaStay
import Derived.Test.YtejbeioiomjbpaaRides2
import Derived.Test.YtejbeioiomjbpaaLog2
import Derived.Test.YtejbeioiomjbpaaSpin2
namespace Go.Proofs.Ytejbeioiomjbpaa
open Go.RowKit Go.Shelf

theorem lie_exists (W : World) : ∀ (L : List Nat), (∀ k ∈ L, k < W.heap.size) → ∃ F : List (Nat × Obj), own F = L ∧ Lie W F
  | [], _ => ⟨[], rfl, fun _ h => by simp at h⟩
  | k :: L, h => by
    obtain ⟨F, hF, hl⟩ := lie_exists W L fun j hj => h j (List.mem_cons_of_mem _ hj)
    have hk := h k (List.mem_cons_self ..)
    refine ⟨(k, W.heap[k]) :: F, by simp [own] at hF ⊢; exact hF, fun y hy => ?_⟩
    rcases List.mem_cons.1 hy with rfl | hy
    · exact Array.getElem?_eq_getElem hk
    · exact hl y hy

theorem lie_same {W W' : World} {F : List (Nat × Obj)} (h : Lie W F) (h' : Lie W' F) : ∀ k ∈ own F, W'.heap[k]? = W.heap[k]? := by
  intro k hk
  obtain ⟨y, hy, rfl⟩ := List.mem_map.1 hk
  rw [h y hy, h' y hy]

theorem LogAt.lt {W : World} {bl bf : Nat} {v : Value} {fr : Int} {l : List Acc} (h : LogAt W bl bf v fr l) : ∀ k ∈ logBlocks bl bf v, k < W.heap.size := by
  intro k hk
  simp only [logBlocks, List.mem_cons, Option.mem_toList] at hk
  rcases hk with rfl | rfl | hk
  · exact h.list.lt
  · exact h.first.lt
  · obtain ⟨cs, hcs⟩ := ownsRow_blk h.row hk; exact hcs.lt

section
variable {σ : Type} {M : World → σ → List Nat → Prop} {w0 : World} {S0 : List Nat} {F : List (Nat × Obj)} {x x' : σ} {S S' U : List Nat} {W W' : World}
theorem own_append (F G : List (Nat × Obj)) : own (F ++ G) = own F ++ own G := by simp [own]
/-- Blocks more of one's own, out of what lies. -/
theorem stay.news (hM : Framed M) (h : stay M w0 S0 F x S W) (hk : Keeps Nothing W W') {G : List (Nat × Obj)} (hb : ∀ k ∈ own G, W.heap.size ≤ k) (hG : Lie W' G) : stay M w0 S0 (G ++ F) x S W' := by
  have h2 := h.keep hM hk
  have hS := hM.lt h.mem
  refine ⟨⟨h2.mem, h2.all.1, ?_⟩, ?_, ?_⟩
  · intro k hk'
    simp only [own_append, List.mem_append, List.not_mem_nil, or_false] at hk'
    rcases hk' with h' | (h' | h')
    · exact h2.all.2 k (by simp [h'])
    · exact .inr (Nat.le_trans h.all.1.size (hb k h'))
    · exact h2.all.2 k (by simp [h'])
  · intro y hy
    rcases List.mem_append.1 hy with hy | hy
    · exact hG y hy
    · exact h2.lie y hy
  · intro c hc
    rw [own_append] at hc
    rcases List.mem_append.1 hc with hc | hc
    · exact ⟨fun h' => by have := hS _ h'; have := hb c hc; omega, by simp⟩
    · exact h2.2.2 c hc
end

/-- A place of a row of one's own set, within a loop. -/
theorem inner_setRow {σ α : Type} {M : World → σ → List Nat → Prop} {w0 : World} {S0 : List Nat} {F : List (Nat × Obj)} {x : σ} {S U : List Nat} {W : World} {pre : List α} {b : Nat} {l : List Value} {e : TypeId} (hM : Framed M)
    (h : inner (base M w0 S0) ((b, .cells l.toArray e (0, 0)) :: F) x S U pre W) (hb : b ∉ own F) (p : Nat) (v : Value) (pre' : List α) :
    inner (base M w0 S0) ((b, .cells (l.set p v).toArray e (0, 0)) :: F) x S U pre' (W.setCell ⟨b, p, none⟩ v) ∧ Same U W (W.setCell ⟨b, p, none⟩ v) := by
  refine inner_turned hM h ((Keeps.refl _ _).set _ _ (.inl (by simp [own]))) ?_ rfl
  intro y hy
  rcases List.mem_cons.1 hy with rfl | hy
  · have hk : Blk W b l.toArray e := h.2.1 (b, _) (by simp)
    have := hk.set p v
    rw [show l.toArray.setIfInBounds p v = (l.set p v).toArray by simp] at this
    exact this
  · have hne : y.1 ≠ b := fun e => hb (List.mem_map.2 ⟨y, hy, e⟩)
    exact (heap_setCell_other W ⟨b, p, none⟩ y.1 v hne).trans (h.2.1 y (List.mem_cons_of_mem _ hy))

/-- The log told at a caller's state. -/
theorem Log_stay {w0 : World} {S0 : List Nat} {F : List (Nat × Obj)} {X : Option Ar} {S : List Nat} {W : World} {v : Value} (h : stay (AtMem v) w0 S0 F X S W) (hM : Framed (AtMem v)) (hm : ∀ A, X = some A → A.many ≤ 1024) :
    Calls Try.prog 27 #[v] W fun e W' => ∃ bl bf u G, e = .returned (.func (.func 65) #[] #[.pointer (some ⟨bl, 0, none⟩), .pointer (some ⟨bf, 0, none⟩)]) ∧
      stay (AtMem v) w0 S0 (G ++ F) X S W' ∧ (∀ W2, Lie W2 G → LogAt W2 bl bf u 0 (ringOf X)) ∧ (∀ k ∈ own G, W.heap.size ≤ k) := by
  refine (Log_any v X S W h.mem hm).mono ?_
  rintro e W' ⟨bl, bf, u, rfl, hl, hn, hk⟩
  obtain ⟨G, hG, hlie⟩ := lie_exists W' (logBlocks bl bf u) hl.lt
  refine ⟨bl, bf, u, G, rfl, h.news hM hk (by rw [hG]; exact hn) hlie, fun W2 h2 => hl.keep fun k hk' => lie_same hlie h2 k (by rw [hG]; exact hk'), by rw [hG]; exact hn⟩

end Go.Proofs.Ytejbeioiomjbpaa
