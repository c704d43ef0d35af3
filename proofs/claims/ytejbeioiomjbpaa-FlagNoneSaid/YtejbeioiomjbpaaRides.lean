/-
  Who rides on an iterator: invariants that hold across its own steps, and across the records of loops.
-/
import Derived.Test.YtejbeioiomjbpaaIter
namespace Go.Proofs.Ytejbeioiomjbpaa
open Go.RowKit

/-- An invariant of who goes over something: x is what the iterator works on (M says how it lies; S are its blocks), U are the iterator's own blocks. -/
structure Rides {σ α : Type} (M : World → σ → List Nat → Prop) (J : σ → List Nat → List Nat → List α → World → Prop) : Prop where
  mem : ∀ {x S U pre W}, J x S U pre W → M W x S
  turn : ∀ {x S U pre W x' S' U' W'}, J x S U pre W → M W' x' S' → Turn (S ++ U) (S' ++ U') W W' → J x' S' U' pre W'

/-- What lies in blocks of S is told by the blocks of S alone. -/
structure Framed {σ : Type} (M : World → σ → List Nat → Prop) : Prop where
  keep : ∀ {W W' x S}, M W x S → (∀ k ∈ S, W'.heap[k]? = W.heap[k]?) → M W' x S
  lt : ∀ {W x S}, M W x S → ∀ k ∈ S, k < W.heap.size

theorem Turn.more {S S' : List Nat} {w w' : World} (U : List Nat) (h : Turn S S' w w') : Turn (S ++ U) (S' ++ U) w w' :=
  ⟨h.1.mono fun _ hk => List.mem_append.2 (.inl hk), fun k hk => by
    rcases List.mem_append.1 hk with hk | hk
    · rcases h.2 k hk with h1 | h1
      · exact .inl (List.mem_append.2 (.inl h1))
      · exact .inr h1
    · exact .inl (List.mem_append.2 (.inr hk))⟩

/-- These objects lie there. -/
def Lie (W : World) (F : List (Nat × Obj)) : Prop := ∀ x ∈ F, W.heap[x.1]? = some x.2
def own (F : List (Nat × Obj)) : List Nat := F.map Prod.fst

theorem Lie.lt {W : World} {F : List (Nat × Obj)} (h : Lie W F) {b : Nat} (hb : b ∈ own F) : b < W.heap.size := by
  obtain ⟨x, hx, rfl⟩ := List.mem_map.1 hb
  exact (Array.getElem?_eq_some_iff.1 (h x hx)).1
theorem Lie.keep {W W' : World} {F : List (Nat × Obj)} (h : Lie W F) (hk : ∀ k ∈ own F, W'.heap[k]? = W.heap[k]?) : Lie W' F :=
  fun x hx => (hk x.1 (List.mem_map.2 ⟨x, hx, rfl⟩)).trans (h x hx)
theorem Lie.keeps {W W' : World} {F : List (Nat × Obj)} {S : Nat → Prop} (h : Lie W F) (hk : Keeps S W W') (hn : ∀ k ∈ own F, ¬ S k) : Lie W' F :=
  h.keep fun k hm => hk.block k (h.lt hm) (hn k hm)

theorem Rides.put {σ α : Type} {M : World → σ → List Nat → Prop} {J : σ → List Nat → List Nat → List α → World → Prop} (hJ : Rides M J) (hM : Framed M) {x : σ} {S U : List Nat} {pre : List α} {W : World}
    (h : J x S U pre W) {l : Nat} (hl : l ∈ U) (hn : l ∉ S) (o : Obj) : J x S U pre (W.putObj l o) :=
  hJ.turn h (hM.keep (hJ.mem h) fun k hk => World.putObj_heap_other (by rintro rfl; exact hn hk))
    ⟨(Keeps.refl _ W).put l o (.inl (List.mem_append.2 (.inr hl))), fun _ hk => .inl hk⟩

/-- An invariant with blocks of one's own in it. -/
def inner {σ α : Type} (J : σ → List Nat → List Nat → List α → World → Prop) (F : List (Nat × Obj)) : σ → List Nat → List Nat → List α → World → Prop :=
  fun x S U pre W => J x S (own F ++ U) pre W ∧ Lie W F ∧ ∀ b ∈ own F, b ∉ S ∧ b ∉ U

theorem inner_rides {σ α : Type} {M : World → σ → List Nat → Prop} {J : σ → List Nat → List Nat → List α → World → Prop} (hJ : Rides M J) (F : List (Nat × Obj)) : Rides M (inner J F) where
  mem h := hJ.mem h.1
  turn := by
    rintro x S U pre W x' S' U' W' ⟨hj, hl, hd⟩ hm ht
    refine ⟨hJ.turn hj hm ⟨ht.1.mono ?_, ?_⟩, hl.keep fun k hk => ht.1.block k (hl.lt hk) ?_, ?_⟩
    · intro k hk
      simp only [List.mem_append] at hk ⊢
      rcases hk with hk | hk
      · exact .inl hk
      · exact .inr (.inr hk)
    · intro k hk
      simp only [List.mem_append] at hk ⊢
      rcases hk with hk | hk | hk
      · rcases ht.2 k (List.mem_append.2 (.inl hk)) with h | h
        · rcases List.mem_append.1 h with h | h
          · exact .inl (.inl h)
          · exact .inl (.inr (.inr h))
        · exact .inr h
      · exact .inl (.inr (.inl hk))
      · rcases ht.2 k (List.mem_append.2 (.inr hk)) with h | h
        · rcases List.mem_append.1 h with h | h
          · exact .inl (.inl h)
          · exact .inl (.inr (.inr h))
        · exact .inr h
    · intro h
      rcases List.mem_append.1 h with h | h
      · exact (hd k hk).1 h
      · exact (hd k hk).2 h
    · intro b hb
      have hlt := hl.lt hb
      constructor
      · intro h
        rcases ht.2 b (List.mem_append.2 (.inl h)) with h | h
        · rcases List.mem_append.1 h with h | h
          · exact (hd b hb).1 h
          · exact (hd b hb).2 h
        · omega
      · intro h
        rcases ht.2 b (List.mem_append.2 (.inr h)) with h | h
        · rcases List.mem_append.1 h with h | h
          · exact (hd b hb).1 h
          · exact (hd b hb).2 h
        · omega

/-- Out of it again: the own blocks are the iterator's. -/
theorem inner_out {σ α : Type} {J : σ → List Nat → List Nat → List α → World → Prop} {F : List (Nat × Obj)} {x : σ} {S U : List Nat} {pre : List α} {W : World} (h : inner J F x S U pre W) : J x S (own F ++ U) pre W := h.1

theorem Rides.pure {σ α : Type} {M : World → σ → List Nat → Prop} {J : σ → List Nat → List Nat → List α → World → Prop} (hJ : Rides M J) (p : Prop) : Rides M (fun x S U pre W => p ∧ J x S U pre W) where
  mem h := hJ.mem h.2
  turn h hm ht := ⟨h.1, hJ.turn h.2 hm ht⟩

/-- Into it: the blocks are new. -/
theorem inner_new {σ α : Type} {M : World → σ → List Nat → Prop} {J : σ → List Nat → List Nat → List α → World → Prop} (hJ : Rides M J) (hM : Framed M) {x : σ} {S U : List Nat} {pre : List α} {W W' : World}
    (h : J x S U pre W) (hk : Keeps Nothing W W') {F : List (Nat × Obj)} (hF : Lie W' F) (hn : ∀ b ∈ own F, W.heap.size ≤ b) (hU : ∀ k ∈ U, k < W.heap.size) : inner J F x S U pre W' := by
  have hS := hM.lt (hJ.mem h)
  refine ⟨hJ.turn h (hM.keep (hJ.mem h) fun k hk' => hk.block k (hS k hk') id) ⟨hk.nothing, ?_⟩, hF, fun b hb => ⟨fun h => ?_, fun h => ?_⟩⟩
  · intro k hk'
    simp only [List.mem_append] at hk' ⊢
    rcases hk' with h | h | h
    · exact .inl (.inl h)
    · exact .inr (hn k h)
    · exact .inl (.inr h)
  · have := hS b h; have := hn b hb; omega
  · have := hU b h; have := hn b hb; omega

/-- One block of one's own turned. -/
theorem inner_put {σ α : Type} {M : World → σ → List Nat → Prop} {J : σ → List Nat → List Nat → List α → World → Prop} (hJ : Rides M J) (hM : Framed M) {F G : List (Nat × Obj)} {x : σ} {S U : List Nat} {pre : List α} {W : World}
    (h : J x S (own F ++ U) pre W) (hd : ∀ b ∈ own F, b ∉ S ∧ b ∉ U) {l : Nat} (hl : l ∈ own F) (o : Obj) (ho : own F = own G) (hG : Lie (W.putObj l o) G) : inner J G x S U pre (W.putObj l o) := by
  refine ⟨?_, hG, ho ▸ hd⟩
  rw [← ho]
  exact hJ.put hM h (List.mem_append.2 (.inl hl)) (hd l hl).1 o

/-- These blocks lie as they lay. -/
def Same (U : List Nat) (W W' : World) : Prop := W.heap.size ≤ W'.heap.size ∧ ∀ k ∈ U, k < W.heap.size → W'.heap[k]? = W.heap[k]?
theorem Same.refl (U : List Nat) (W : World) : Same U W W := ⟨Nat.le_refl _, fun _ _ _ => rfl⟩
theorem Same.trans {U : List Nat} {A B C : World} (h : Same U A B) (k : Same U B C) : Same U A C := ⟨Nat.le_trans h.1 k.1, fun i hi hl => (k.2 i hi (Nat.lt_of_lt_of_le hl h.1)).trans (h.2 i hi hl)⟩
theorem Lie.same {W W' : World} {F : List (Nat × Obj)} {U : List Nat} (h : Lie W F) (hs : Same U W W') (hU : ∀ k ∈ own F, k ∈ U) : Lie W' F := h.keep fun k hk => hs.2 k (hU k hk) (h.lt hk)
theorem Same.sub {U V : List Nat} {W W' : World} (h : Same U W W') (hs : ∀ k ∈ V, k ∈ U) : Same V W W' := ⟨h.1, fun k hk => h.2 k (hs k hk)⟩

/-- A function that goes over something, for whoever rides on it: 'step x0' is what it tells, and what there is then. -/
def Seq {σ α : Type} (P : Program) (gf : Nat) (lb : Array Value) (M : World → σ → List Nat → Prop) (encs : Nat → α → Array Value) (Box : World → Prop) (x0 : σ) (all : List α) (x1 : σ) : Prop :=
  ∀ (l : Nat) (J Jx : σ → List Nat → List Nat → List α → World → Prop), Rides M J → Rides M Jx → (∀ {x S U pre W}, J x S U pre W → Box W) →
    (∀ {x S U pre W} (b : α), pre ++ [b] <+: all → J x S U pre W → Yields P l (encs pre.length b) W fun e W' =>
      (e = .returned (.bool true) ∧ J x S U (pre ++ [b]) W' ∧ Same U W W') ∨ (e = .returned (.bool false) ∧ Jx x S U (pre ++ [b]) W' ∧ Same U W W')) →
    ∀ (S : List Nat) (W : World), J x0 S [] [] W → Calls P gf (#[.func (.yield l) #[] #[]] ++ lb) W fun e W' => (∃ u, e = .returned u) ∧
      ((∃ S' U', J x1 S' U' all W') ∨ (∃ pre x' S' U', pre <+: all ∧ Jx x' S' U' pre W'))

/-- How the body of a round is left. -/
def seqPost {σ α : Type} (J : σ → List Nat → List Nat → List α → World → Prop) (Jx : Code → σ → List Nat → List Nat → List α → World → Prop) (x : σ) (S U : List Nat) (pre : List α) (W : World) : Exit → Act → World → Prop
  | .normal, _, W' => J x S U pre W' ∧ Same U W W'
  | .ret, _, W' => Jx .ret x S U pre W' ∧ Same U W W'
  | .exit id, _, W' => Jx (.exit id) x S U pre W' ∧ Same U W W'
  | .goto t, _, W' => Jx (.goto t) x S U pre W' ∧ Same U W W'
  | .panic _, _, _ => False
  | .outgrown, _, _ => False

/-- The statement, at an outermost loop, over such a function. -/
theorem wp_range_seq {σ α : Type} {P : Program} {g : Operand} {ps : Array Tmp} {assign body : Code} {Q : Exit → Act → World → Prop} {a : Act} {w : World} {gf : Nat} {lb : Array Value}
    {M : World → σ → List Nat → Prop} (hM : Framed M) {encs : Nat → α → Array Value} {Box : World → Prop} {x0 x1 : σ} {all : List α} (hseq : Seq P gf lb M encs Box x0 all x1)
    (hg : a.eval g = .func (.func gf) #[] lb) (eg : ∀ args w, (callFunc gf args).run P w = .ok (.enter gf args) w) (hps : ∀ i b, (encs i b).size = ps.size)
    (J : σ → List Nat → List Nat → List α → World → Prop) (Jx : Code → σ → List Nat → List Nat → List α → World → Prop) (hJ : Rides M J) (hJx : ∀ c, Rides M (Jx c))
    (hBox : ∀ {x S U pre W}, J x S U pre W → Box W) (S : List Nat) (h0 : J x0 S [] [] w) (a₁ : Act → Nat → α → Act)
    (hassign : ∀ (l m i : Nat) (b : α) (K : Act → World → Prop) (W : World), K (a₁ a i b) W →
      assign.wpIn (Fence.wide.inRound l) m P (Exit.then K (fun _ _ _ => False)) { tmps := (ps.zip (encs i b)).foldl (fun t (p, v) => t.setIfInBounds p v) a.tmps, defers := [] } W)
    (hbody : ∀ (l m : Nat) (x : σ) (S U : List Nat) (pre : List α) (b : α) (W : World), pre ++ [b] <+: all → J x S U pre W → body.wpIn (Fence.wide.inRound l) m P (seqPost J Jx x S U (pre ++ [b]) W) (a₁ a pre.length b) W)
    (hdone : ∀ (S U : List Nat) (W : World), J x1 S U all W → W.heap[w.heap.size]? = some (.deferred (some [])) → w.heap.size ∈ U → w.heap.size ∉ S → Q .normal { a with defers := { target := .collected w.heap.size, args := #[] } :: a.defers } W)
    (hstop : ∀ (c : Code) (pre : List α) (x : σ) (S U : List Nat) (W : World), pre <+: all → Jx c x S U pre W → W.heap[w.heap.size]? = some (.deferred (some [])) → w.heap.size ∈ U → w.heap.size ∉ S →
      c.wp P Q { a with defers := { target := .collected w.heap.size, args := #[] } :: a.defers } W) :
    (Code.rangeFunc g ps assign body).wp P Q a w := by
  refine wp_range hg eg ?_
  intro fn
  obtain ⟨r, hr⟩ : ∃ r : LoopState → Option Code → Loop, r = loopRec fn a.tmps ps assign body w.heap.size := ⟨_, rfl⟩
  obtain ⟨D, hD⟩ : ∃ D, w.heap.size = D := ⟨_, rfl⟩
  let F : LoopState → Option Code → List (Nat × Obj) := fun st pe => [(D, .deferred (some [])), (D + 1, .loop (r st pe))]
  have hown : ∀ st pe, own (F st pe) = [D, D + 1] := fun _ _ => rfl
  have hlr : (World.looped w fn a.tmps ps assign body).heap[D + 1]? = some (.loop (r .ready none)) := by rw [hr, ← hD]; exact looped_rec _ _ _ _ _ _
  have hld : (World.looped w fn a.tmps ps assign body).heap[D]? = some (.deferred (some [])) := by rw [← hD]; exact looped_def _ _ _ _ _ _
  have hmk : ∀ {W : World} {st pe}, W.heap[D]? = some (.deferred (some [])) → W.heap[D + 1]? = some (.loop (r st pe)) → Lie W (F st pe) := by
    intro W st pe h1 h2 x hx
    simp only [F, List.mem_cons, List.not_mem_nil, or_false] at hx
    rcases hx with rfl | rfl
    · exact h1
    · exact h2
  have hLD : ∀ {W : World} {st pe}, Lie W (F st pe) → W.heap[D]? = some (.deferred (some [])) := fun h => h (D, _) (by simp [F])
  have hLL : ∀ {W : World} {st pe}, Lie W (F st pe) → W.heap[D + 1]? = some (.loop (r st pe)) := fun h => h (D + 1, _) (by simp [F])
  have hput : ∀ {W : World} {st pe st' pe'}, Lie W (F st pe) → Lie (W.putObj (D + 1) (.loop (r st' pe'))) (F st' pe') := fun h =>
    hmk ((World.putObj_heap_other (by omega)).trans (hLD h)) (World.putObj_heap_same (h.lt (b := D + 1) (by simp [own, F])))
  have hI0 : inner J (F .ready none) x0 S [] [] (World.looped w fn a.tmps ps assign body) :=
    inner_new hJ hM h0 (looped_keeps _ _ _ _ _ _) (hmk hld hlr) (by rw [hown]; simp; omega) (by simp)
  have hC := hseq (D + 1) (inner J (F .ready none)) (fun x S U pre W => ∃ c, inner (Jx c) (F .done (some c)) x S U pre W) (inner_rides hJ _)
    ⟨fun h => by obtain ⟨c, h⟩ := h; exact (inner_rides (hJx c) _).mem h, fun h hm ht => by obtain ⟨c, h⟩ := h; exact ⟨c, (inner_rides (hJx c) _).turn h hm ht⟩⟩
    (fun h => hBox h.1) ?_ S _ hI0
  · rw [hD]
    refine hC.mono ?_
    rintro e W ⟨⟨u, rfl⟩, ⟨S', U', hj, hl, hd⟩ | ⟨pre, x', S', U', hpre, c, hj, hl, hd⟩⟩
    · have h1 := hJ.put hM hj (l := D + 1) (by rw [hown]; simp) (hd (D + 1) (by rw [hown]; simp)).1 (.loop (r .exhausted none))
      have h2 := hdone _ _ _ h1 (by rw [hD]; exact (World.putObj_heap_other (by omega)).trans (hLD hl)) (by rw [hD, hown]; simp) (by rw [hD]; exact (hd D (by rw [hown]; simp)).1)
      rw [hD] at h2 hr
      rw [← hr]
      exact .inl ⟨hLL hl, h2⟩
    · have h1 := (hJx c).put hM hj (l := D + 1) (by rw [hown]; simp) (hd (D + 1) (by rw [hown]; simp)).1 (.loop (r .exhausted (some c)))
      have h2 := hstop c pre _ _ _ _ hpre h1 (by rw [hD]; exact (World.putObj_heap_other (by omega)).trans (hLD hl)) (by rw [hD, hown]; simp) (by rw [hD]; exact (hd D (by rw [hown]; simp)).1)
      rw [hD] at h2 hr
      rw [← hr]
      exact .inr ⟨c, hLL hl, h2⟩
  · -- one round
    intro x S U pre W b hpre hin
    obtain ⟨hj, hl, hd⟩ := hin
    have hN1 := (hd (D + 1) (by rw [hown]; simp)).1
    have hM1 : D + 1 ∈ own (F .ready none) ++ U := by rw [hown]; simp
    refine yields_of_body (fn := fn) (tmps := a.tmps) (ps := ps) (assign := assign) (body := body) (D := D) (by have := hLL hl; rw [hr, hD] at this; exact this) (hps _ _) ?_
    intro m
    have hr' : loopRec fn a.tmps ps assign body D = r := by rw [hr, hD]
    rw [hr']
    refine hassign (D + 1) m pre.length b _ W ⟨hLL hl, ?_⟩
    have hj2 := hJ.put hM hj hM1 hN1 (.loop (r .busy none))
    have hl2 : Lie (W.putObj (D + 1) (.loop (r .busy none))) (F .busy none) := hput hl
    refine wpIn_mono (hbody (D + 1) m x S (own (F .ready none) ++ U) pre b _ hpre hj2) ?_
    have hsame : ∀ (c : Option Code) (st : LoopState) (W3 : World), Same (own (F .ready none) ++ U) (W.putObj (D + 1) (.loop (r .busy none))) W3 → Same U W (W3.putObj (D + 1) (.loop (r st c))) := by
      intro c st W3 hs
      refine ⟨by have := hs.1; simpa using this, fun k hk hlt => ?_⟩
      have hne : k ≠ D + 1 := by rintro rfl; exact (hd (D + 1) (by rw [hown]; simp)).2 hk
      rw [World.putObj_heap_other hne, hs.2 k (List.mem_append.2 (.inr hk)) (by simpa using hlt), World.putObj_heap_other hne]
    have hlie : ∀ (W3 : World), Same (own (F .ready none) ++ U) (W.putObj (D + 1) (.loop (r .busy none))) W3 → Lie W3 (F .busy none) := fun W3 hs =>
      hl2.same hs fun k hk => List.mem_append.2 (.inl (by rw [hown] at hk ⊢; exact hk))
    intro e a3 W3 hp
    cases e with
    | normal =>
      obtain ⟨h1, h2⟩ := hp
      exact ⟨hLL (hlie W3 h2), .inl ⟨rfl, ⟨hJ.put hM h1 hM1 hN1 _, hput (hlie W3 h2), hd⟩, hsame _ _ W3 h2⟩⟩
    | ret =>
      obtain ⟨h1, h2⟩ := hp
      have h3 := hlie W3 h2
      exact ⟨hLL h3, .inr ⟨rfl, ⟨.ret, (hJx _).put hM h1 hM1 hN1 _, hput h3, hd⟩, hsame _ _ W3 h2⟩⟩
    | exit id =>
      obtain ⟨h1, h2⟩ := hp
      have h3 := hlie W3 h2
      exact ⟨hLL h3, .inr ⟨rfl, ⟨.exit id, (hJx _).put hM h1 hM1 hN1 _, hput h3, hd⟩, hsame _ _ W3 h2⟩⟩
    | goto t =>
      obtain ⟨h1, h2⟩ := hp
      have h3 := hlie W3 h2
      exact ⟨hLL h3, .inr ⟨rfl, ⟨.goto t, (hJx _).put hM h1 hM1 hN1 _, hput h3, hd⟩, hsame _ _ W3 h2⟩⟩
    | panic ch => exact hp.elim
    | outgrown => exact hp.elim

end Go.Proofs.Ytejbeioiomjbpaa
