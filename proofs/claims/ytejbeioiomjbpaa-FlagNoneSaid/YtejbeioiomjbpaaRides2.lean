/-
  A range over a function whose loop variables lie in boxes.
-/
import Derived.Test.YtejbeioiomjbpaaRides
namespace Go.Proofs.Ytejbeioiomjbpaa
open Go.RowKit

/-- The same, where what is assigned may lay blocks (loop variables in boxes). -/
theorem wp_range_seqB {σ α : Type} {P : Program} {g : Operand} {ps : Array Tmp} {assign body : Code} {Q : Exit → Act → World → Prop} {a : Act} {w : World} {gf : Nat} {lb : Array Value}
    {M : World → σ → List Nat → Prop} (hM : Framed M) {encs : Nat → α → Array Value} {Box : World → Prop} {x0 x1 : σ} {all : List α} (hseq : Seq P gf lb M encs Box x0 all x1)
    (hg : a.eval g = .func (.func gf) #[] lb) (eg : ∀ args w, (callFunc gf args).run P w = .ok (.enter gf args) w) (hps : ∀ i b, (encs i b).size = ps.size)
    (J : σ → List Nat → List Nat → List α → World → Prop) (Jx : Code → σ → List Nat → List Nat → List α → World → Prop) (hJ : Rides M J) (hJx : ∀ c, Rides M (Jx c))
    (hBox : ∀ {x S U pre W}, J x S U pre W → Box W) (S : List Nat) (h0 : J x0 S [] [] w)
    (hround : ∀ (l m : Nat) (x : σ) (S U : List Nat) (pre : List α) (b : α) (W : World), pre ++ [b] <+: all → J x S U pre W → l < W.heap.size → l ∈ U → l ∉ S →
      assign.wpIn (Fence.wide.inRound l) m P (Exit.then (fun a₁ W₁ => J x S U pre W₁ ∧ Same U W W₁ ∧ ∀ o, J x S U pre (W₁.putObj l o) →
          body.wpIn (Fence.wide.inRound l) m P (seqPost J Jx x S U (pre ++ [b]) (W₁.putObj l o)) a₁ (W₁.putObj l o)) (fun _ _ _ => False))
        { tmps := (ps.zip (encs pre.length b)).foldl (fun t (p, v) => t.setIfInBounds p v) a.tmps, defers := [] } W)
    (hdone : ∀ (S U : List Nat) (W : World), J x1 S U all W → W.heap[w.heap.size]? = some (.deferred (some [])) → w.heap.size ∈ U → w.heap.size ∉ S → Q .normal { a with defers := { target := .collected w.heap.size, args := #[] } :: a.defers } W)
    (hstop : ∀ (c : Code) (pre : List α) (x : σ) (S U : List Nat) (W : World), pre <+: all → Jx c x S U pre W → W.heap[w.heap.size]? = some (.deferred (some [])) → w.heap.size ∈ U → w.heap.size ∉ S →
      c.wp P Q { a with defers := { target := .collected w.heap.size, args := #[] } :: a.defers } W) :
    (Code.rangeFunc g ps assign body).wp P Q a w := by
  refine wp_range hg eg ?_
  intro fn
  obtain ⟨r, hr⟩ : ∃ r : LoopState → Option Code → Loop, r = loopRec fn a.tmps ps assign body w.heap.size := ⟨_, rfl⟩
  obtain ⟨D, hD⟩ : ∃ D, w.heap.size = D := ⟨_, rfl⟩
  let F : LoopState → Option Code → List (Nat × Obj) := fun st pe => [(D, .deferred (some [])), (D + 1, .loop (r st pe))]
  have hown : ∀ st pe, own (F st pe) = [D, D + 1] := fun _ _ => rfl
  have hlr : (World.looped w fn a.tmps ps assign body).heap[D + 1]? = some (.loop (r .ready none)) := by rw [hr, ← hD]; exact looped_rec _ _ _ _ _ _
  have hld : (World.looped w fn a.tmps ps assign body).heap[D]? = some (.deferred (some [])) := by rw [← hD]; exact looped_def _ _ _ _ _ _
  have hmk : ∀ {W : World} {st pe}, W.heap[D]? = some (.deferred (some [])) → W.heap[D + 1]? = some (.loop (r st pe)) → Lie W (F st pe) := by
    intro W st pe h1 h2 x hx
    simp only [F, List.mem_cons, List.not_mem_nil, or_false] at hx
    rcases hx with rfl | rfl
    · exact h1
    · exact h2
  have hLD : ∀ {W : World} {st pe}, Lie W (F st pe) → W.heap[D]? = some (.deferred (some [])) := fun h => h (D, _) (by simp [F])
  have hLL : ∀ {W : World} {st pe}, Lie W (F st pe) → W.heap[D + 1]? = some (.loop (r st pe)) := fun h => h (D + 1, _) (by simp [F])
  have hput : ∀ {W : World} {st pe st' pe'}, Lie W (F st pe) → Lie (W.putObj (D + 1) (.loop (r st' pe'))) (F st' pe') := fun h =>
    hmk ((World.putObj_heap_other (by omega)).trans (hLD h)) (World.putObj_heap_same (h.lt (b := D + 1) (by simp [own, F])))
  have hI0 : inner J (F .ready none) x0 S [] [] (World.looped w fn a.tmps ps assign body) :=
    inner_new hJ hM h0 (looped_keeps _ _ _ _ _ _) (hmk hld hlr) (by rw [hown]; simp; omega) (by simp)
  have hC := hseq (D + 1) (inner J (F .ready none)) (fun x S U pre W => ∃ c, inner (Jx c) (F .done (some c)) x S U pre W) (inner_rides hJ _)
    ⟨fun h => by obtain ⟨c, h⟩ := h; exact (inner_rides (hJx c) _).mem h, fun h hm ht => by obtain ⟨c, h⟩ := h; exact ⟨c, (inner_rides (hJx c) _).turn h hm ht⟩⟩
    (fun h => hBox h.1) ?_ S _ hI0
  · rw [hD]
    refine hC.mono ?_
    rintro e W ⟨⟨u, rfl⟩, ⟨S', U', hj, hl, hd⟩ | ⟨pre, x', S', U', hpre, c, hj, hl, hd⟩⟩
    · have h1 := hJ.put hM hj (l := D + 1) (by rw [hown]; simp) (hd (D + 1) (by rw [hown]; simp)).1 (.loop (r .exhausted none))
      have h2 := hdone _ _ _ h1 (by rw [hD]; exact (World.putObj_heap_other (by omega)).trans (hLD hl)) (by rw [hD, hown]; simp) (by rw [hD]; exact (hd D (by rw [hown]; simp)).1)
      rw [hD] at h2 hr
      rw [← hr]
      exact .inl ⟨hLL hl, h2⟩
    · have h1 := (hJx c).put hM hj (l := D + 1) (by rw [hown]; simp) (hd (D + 1) (by rw [hown]; simp)).1 (.loop (r .exhausted (some c)))
      have h2 := hstop c pre _ _ _ _ hpre h1 (by rw [hD]; exact (World.putObj_heap_other (by omega)).trans (hLD hl)) (by rw [hD, hown]; simp) (by rw [hD]; exact (hd D (by rw [hown]; simp)).1)
      rw [hD] at h2 hr
      rw [← hr]
      exact .inr ⟨c, hLL hl, h2⟩
  · -- one round
    intro x S U pre W b hpre hin
    obtain ⟨hj, hl, hd⟩ := hin
    have hN1 := (hd (D + 1) (by rw [hown]; simp)).1
    have hM1 : D + 1 ∈ own (F .ready none) ++ U := by rw [hown]; simp
    refine yields_of_body (fn := fn) (tmps := a.tmps) (ps := ps) (assign := assign) (body := body) (D := D) (by have := hLL hl; rw [hr, hD] at this; exact this) (hps _ _) ?_
    intro m
    have hr' : loopRec fn a.tmps ps assign body D = r := by rw [hr, hD]
    rw [hr']
    refine wpIn_mono (hround (D + 1) m x S (own (F .ready none) ++ U) pre b W hpre hj (hl.lt (by rw [hown]; simp)) hM1 hN1) ?_
    intro e1 a1 W1 hq1
    cases e1 with
    | exit id => exact hq1
    | ret => exact hq1
    | goto t => exact hq1
    | panic ch => exact hq1
    | outgrown => exact hq1
    | normal =>
    obtain ⟨hj1, hs1, hb1⟩ := hq1
    have hl1 : Lie W1 (F .ready none) := hl.same hs1 fun k hk => List.mem_append.2 (.inl hk)
    refine ⟨hLL hl1, ?_⟩
    have hj2 := hJ.put hM hj1 hM1 hN1 (.loop (r .busy none))
    have hl2 : Lie (W1.putObj (D + 1) (.loop (r .busy none))) (F .busy none) := hput hl1
    refine wpIn_mono (hb1 _ hj2) ?_
    have hsame : ∀ (c : Option Code) (st : LoopState) (W3 : World), Same (own (F .ready none) ++ U) (W1.putObj (D + 1) (.loop (r .busy none))) W3 → Same U W (W3.putObj (D + 1) (.loop (r st c))) := by
      intro c st W3 hs
      refine ⟨by have := hs.1; have := hs1.1; simp at *; omega, fun k hk hlt => ?_⟩
      have hne : k ≠ D + 1 := by rintro rfl; exact (hd (D + 1) (by rw [hown]; simp)).2 hk
      rw [World.putObj_heap_other hne, hs.2 k (List.mem_append.2 (.inr hk)) (by have := hs1.1; simp; omega), World.putObj_heap_other hne, hs1.2 k (List.mem_append.2 (.inr hk)) hlt]
    have hlie : ∀ (W3 : World), Same (own (F .ready none) ++ U) (W1.putObj (D + 1) (.loop (r .busy none))) W3 → Lie W3 (F .busy none) := fun W3 hs =>
      hl2.same hs fun k hk => List.mem_append.2 (.inl (by rw [hown] at hk ⊢; exact hk))
    intro e a3 W3 hp
    cases e with
    | normal =>
      obtain ⟨h1, h2⟩ := hp
      exact ⟨hLL (hlie W3 h2), .inl ⟨rfl, ⟨hJ.put hM h1 hM1 hN1 _, hput (hlie W3 h2), hd⟩, hsame _ _ W3 h2⟩⟩
    | ret =>
      obtain ⟨h1, h2⟩ := hp
      have h3 := hlie W3 h2
      exact ⟨hLL h3, .inr ⟨rfl, ⟨.ret, (hJx _).put hM h1 hM1 hN1 _, hput h3, hd⟩, hsame _ _ W3 h2⟩⟩
    | exit id =>
      obtain ⟨h1, h2⟩ := hp
      have h3 := hlie W3 h2
      exact ⟨hLL h3, .inr ⟨rfl, ⟨.exit id, (hJx _).put hM h1 hM1 hN1 _, hput h3, hd⟩, hsame _ _ W3 h2⟩⟩
    | goto t =>
      obtain ⟨h1, h2⟩ := hp
      have h3 := hlie W3 h2
      exact ⟨hLL h3, .inr ⟨rfl, ⟨.goto t, (hJx _).put hM h1 hM1 hN1 _, hput h3, hd⟩, hsame _ _ W3 h2⟩⟩
    | panic ch => exact hp.elim
    | outgrown => exact hp.elim


end Go.Proofs.Ytejbeioiomjbpaa
