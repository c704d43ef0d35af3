/-
  A list of one's own that grows (append), within a caller's state.
-/
import Derived.Test.YtejbeioiomjbpaaStay2
namespace Go.Proofs.Ytejbeioiomjbpaa
open Go.RowKit Go.Shelf

section
variable {σ : Type} {M : World → σ → List Nat → Prop} {w0 : World} {S0 : List Nat} {F G : List (Nat × Obj)} {x : σ} {S : List Nat} {W W1 : World}
/-- The first state, own blocks laid ahead of it. -/
theorem stay.firsts {Wb : World} (hm : M W1 x S) (hb : Keeps Nothing W Wb) (hk : Keeps Nothing Wb W1) (hF : Lie Wb F) (hn : ∀ k ∈ own F, W.heap.size ≤ k) (hS : ∀ k ∈ S, Wb.heap.size ≤ k) : stay M W [] F x S W1 := by
  refine ⟨⟨hm, (hb.then hk).nothing, fun k hk' => .inr ?_⟩, hF.keeps hk fun _ _ => id, fun c hc => ⟨fun h => ?_, by simp⟩⟩
  · simp only [List.append_nil] at hk'
    rcases List.mem_append.1 hk' with h | h
    · exact Nat.le_trans hb.size (hS k h)
    · exact hn k h
  · have := hF.lt hc; have := hS c h; omega

theorem stay.row_grown (hM : Framed M) (h : stay M w0 S0 (G ++ F) x S W) {v v' : Value} {b : Nat} {e : TypeId} {sz n : Nat} {xs : List Value} (hG : own G = v.ownBlock.toList) (hd : ∀ k ∈ own F, k ∉ own G)
    (hg : W.grownBy W1 v.ownBlock) (hown : W1.ownsRow b e sz v' n xs) (hat : v'.ownBlock = v.ownBlock ∨ v'.ownBlock = some W.heap.size) :
    ∃ G', own G' = v'.ownBlock.toList ∧ stay M w0 S0 (G' ++ F) x S W1 ∧ (∀ W2, Lie W2 G' → W2.ownsRow b e sz v' n xs) ∧ (∀ k ∈ own F, k ∉ own G') := by
  have hk : Keeps (· ∈ own G) W W1 := (Keeps.refl _ _).grown hg fun k hk => .inl (by rw [hG, hk]; simp)
  have hS := hM.lt h.mem
  obtain ⟨G', hG', hlie⟩ := lie_exists W1 v'.ownBlock.toList (fun k hk' => by
    obtain ⟨cs, hcs⟩ := ownsRow_blk hown (Option.mem_toList.1 hk')
    exact hcs.lt)
  have hin : ∀ k ∈ own G', k ∈ own G ∨ k = W.heap.size := by
    intro k hk'
    rw [hG'] at hk'
    rcases hat with h1 | h1
    · rw [h1, ← hG] at hk'; exact .inl hk'
    · rw [h1] at hk'; simp at hk'; exact .inr hk'
  have hFl : ∀ k ∈ own F, k < W.heap.size := fun k hk' => h.lie.lt (by rw [own_append]; simp [hk'])
  refine ⟨G', hG', ⟨⟨hM.keep h.mem fun k hk' => hk.block k (hS k hk') (fun hg' => (h.2.2 k (by rw [own_append]; simp [hg'])).1 hk'), ?_⟩, ?_, ?_⟩, ?_, ?_⟩
  · refine h.all.trans ⟨hk.mono fun k hk' => by rw [own_append]; simp [hk'], ?_⟩
    intro k hk'
    simp only [own_append, List.mem_append, List.not_mem_nil, or_false] at hk' ⊢
    rcases hk' with h1 | h1 | h1
    · exact .inl (.inl h1)
    · rcases hin k h1 with h2 | h2
      · exact .inl (.inr (.inl h2))
      · exact .inr (by omega)
    · exact .inl (.inr (.inr h1))
  · intro y hy
    rcases List.mem_append.1 hy with hy | hy
    · exact hlie y hy
    · have hyF : y.1 ∈ own F := List.mem_map.2 ⟨y, hy, rfl⟩
      exact (hk.block y.1 (hFl _ hyF) (hd _ hyF)).trans (h.lie y (List.mem_append.2 (.inr hy)))
  · intro c hc
    rw [own_append] at hc
    rcases List.mem_append.1 hc with hc | hc
    · refine ⟨fun hc' => ?_, by simp⟩
      rcases hin c hc with h2 | h2
      · exact (h.2.2 c (by rw [own_append]; simp [h2])).1 hc'
      · have := hS c hc'; omega
    · exact h.2.2 c (by rw [own_append]; simp [hc])
  · intro W2 h2
    exact ownsRow_kept hown fun k hk' => lie_same hlie h2 k (by rw [hG']; simp [hk'])
  · intro k hk' hk2
    rcases hin k hk2 with h2 | h2
    · exact hd k hk' h2
    · have := hFl k hk'; omega
end

end Go.Proofs.Ytejbeioiomjbpaa
