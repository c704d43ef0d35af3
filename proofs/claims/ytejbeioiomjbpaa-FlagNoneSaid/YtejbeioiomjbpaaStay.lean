/-
  A caller's own state between its calls: what it works on, its own blocks, and that all else lies as it lay.
-/
import Derived.Test.YtejbeioiomjbpaaRides
namespace Go.Proofs.Ytejbeioiomjbpaa
open Go.RowKit

/-- Since w0, of what lay there only S0 has turned. -/
def base {σ α : Type} (M : World → σ → List Nat → Prop) (w0 : World) (S0 : List Nat) : σ → List Nat → List Nat → List α → World → Prop :=
  fun x S U _ W => M W x S ∧ Turn S0 (S ++ U) w0 W

theorem base_rides {σ α : Type} {M : World → σ → List Nat → Prop} {w0 : World} {S0 : List Nat} : Rides M (base (α := α) M w0 S0) where
  mem h := h.1
  turn h hm ht := ⟨hm, h.2.trans ht⟩

/-- The state: x lies in the blocks S; F are the blocks of one's own. -/
def stay {σ : Type} (M : World → σ → List Nat → Prop) (w0 : World) (S0 : List Nat) (F : List (Nat × Obj)) (x : σ) (S : List Nat) (W : World) : Prop :=
  inner (α := Unit) (base M w0 S0) F x S [] [] W

section
variable {σ : Type} {M : World → σ → List Nat → Prop} {w0 : World} {S0 : List Nat} {F : List (Nat × Obj)} {x x' : σ} {S S' U : List Nat} {W W' : World}

theorem stay.mem (h : stay M w0 S0 F x S W) : M W x S := h.1.1
theorem stay.lie (h : stay M w0 S0 F x S W) : Lie W F := h.2.1
theorem stay.at (h : stay M w0 S0 F x S W) {b : Nat} {o : Obj} (hb : (b, o) ∈ F) : W.heap[b]? = some o := h.2.1 (b, o) hb
theorem stay.all (h : stay M w0 S0 F x S W) : Turn S0 (S ++ (own F ++ [])) w0 W := h.1.2
theorem stay.nothing (h : stay M w0 [] F x S W) : Keeps Nothing w0 W := h.all.1.mono fun _ hk => by simp at hk
theorem stay.own_new (h : stay M w0 [] F x S W) {b : Nat} (hb : b ∈ own F) : w0.heap.size ≤ b := by
  rcases h.all.2 b (by simp [hb]) with h | h
  · simp at h
  · exact h
theorem stay.out (h : stay M w0 S0 F x S W) : Turn S0 S w0 W := ⟨h.all.1, fun k hk => h.all.2 k (by simp [hk])⟩
theorem stay.start (hm : M W x S) : stay M W S [] x S W := ⟨⟨hm, by simpa [own] using Turn.refl S W⟩, fun _ h => by simp at h, fun _ h => by simp [own] at h⟩
theorem stay.start0 (hm : M W' x S) (hk : Keeps Nothing W W') (hS : ∀ k ∈ S, W.heap.size ≤ k) : stay M W [] [] x S W' :=
  ⟨⟨hm, hk.nothing, fun k hk' => .inr (hS k (by simpa [own] using hk'))⟩, fun _ h => by simp at h, fun _ h => by simp [own] at h⟩
theorem stay.turn (h : stay M w0 S0 F x S W) (hm : M W' x' S') (ht : Turn S S' W W') : stay M w0 S0 F x' S' W' :=
  (inner_rides base_rides F).turn h hm (ht.more [])
theorem stay.keep (hM : Framed M) (h : stay M w0 S0 F x S W) (hk : Keeps Nothing W W') : stay M w0 S0 F x S W' :=
  h.turn (hM.keep h.mem fun k hk' => hk.block k (hM.lt h.mem k hk') id) ⟨hk.nothing, fun _ h => .inl h⟩
/-- A block more of one's own, out of what lies. -/
theorem stay.new (hM : Framed M) (h : stay M w0 S0 F x S W) (hk : Keeps Nothing W W') {b : Nat} {o : Obj} (hb : W.heap.size ≤ b) (ho : W'.heap[b]? = some o) : stay M w0 S0 ((b, o) :: F) x S W' := by
  have h2 := h.keep hM hk
  have hS := hM.lt h.mem
  refine ⟨⟨h2.mem, h2.all.1, ?_⟩, ?_, ?_⟩
  · intro k hk'
    simp only [own, List.map_cons, List.mem_append, List.mem_cons, List.not_mem_nil, or_false] at hk'
    rcases hk' with h' | (rfl | h')
    · exact h2.all.2 k (by simp [h'])
    · exact .inr (Nat.le_trans h.all.1.size hb)
    · exact h2.all.2 k (by simp [own]; exact .inr (by simpa using h'))
  · intro y hy
    rcases List.mem_cons.1 hy with rfl | hy
    · exact ho
    · exact h2.lie y hy
  · intro c hc
    simp only [own, List.map_cons, List.mem_cons] at hc
    rcases hc with rfl | hc
    · exact ⟨fun h' => by have := hS _ h'; omega, fun h' => by simp at h'⟩
    · exact h2.2.2 c hc
theorem stay.box (hM : Framed M) (h : stay M w0 S0 F x S W) (o : Obj) : stay M w0 S0 ((W.heap.size, o) :: F) x S (W.alloc o) :=
  h.new hM ((Keeps.refl _ _).alloc _) (Nat.le_refl _) (World.alloc_heap_new W o)
/-- Own blocks turned. -/
theorem stay.own_turned (hM : Framed M) (h : stay M w0 S0 F x S W) {G : List (Nat × Obj)} (hk : Keeps (· ∈ own F) W W') (hG : Lie W' G) (ho : own G = own F) : stay M w0 S0 G x S W' := by
  refine ⟨⟨hM.keep h.mem fun k hk' => hk.block k (hM.lt h.mem k hk') (fun h' => (h.2.2 k h').1 hk'), ?_⟩, hG, ?_⟩
  · rw [ho]
    exact h.all.trans ⟨hk.mono fun k hk' => by simp [hk'], fun k hk' => .inl hk'⟩
  · rw [ho]; exact h.2.2
/-- Fewer blocks that one looks at. -/
theorem stay.sub {G : List (Nat × Obj)} (h : stay M w0 S0 F x S W) (hG : ∀ y ∈ G, y ∈ F) : stay M w0 S0 G x S W := by
  have ho : ∀ b, b ∈ own G → b ∈ own F := fun b hb => by
    obtain ⟨y, hy, rfl⟩ := List.mem_map.1 hb
    exact List.mem_map.2 ⟨y, hG y hy, rfl⟩
  refine ⟨⟨h.mem, h.all.1, fun k hk => h.all.2 k ?_⟩, fun y hy => h.lie y (hG y hy), fun b hb => h.2.2 b (ho b hb)⟩
  simp only [List.mem_append, List.not_mem_nil, or_false] at hk ⊢
  exact hk.imp id (ho k)
/-- Out of a loop. -/
theorem stay.of_loop {α : Type} {pre : List α} (h : inner (base M w0 S0) F x S U pre W) {D : Nat} {o : Obj} (ho : W.heap[D]? = some o) (hU : D ∈ U) (hS : D ∉ S) : stay M w0 S0 ((D, o) :: F) x S W := by
  refine ⟨⟨h.1.1, h.1.2.1, ?_⟩, ?_, ?_⟩
  · intro k hk'
    simp only [own, List.map_cons, List.mem_append, List.mem_cons, List.not_mem_nil, or_false] at hk'
    rcases hk' with h' | (rfl | h')
    · exact h.1.2.2 k (by simp [h'])
    · exact h.1.2.2 _ (by simp [hU])
    · exact h.1.2.2 k (by simp [own]; exact .inr (.inl (by simpa using h')))
  · intro y hy
    rcases List.mem_cons.1 hy with rfl | hy
    · exact ho
    · exact h.2.1 y hy
  · intro c hc
    simp only [own, List.map_cons, List.mem_cons] at hc
    rcases hc with rfl | hc
    · exact ⟨hS, by simp⟩
    · exact ⟨(h.2.2 c hc).1, by simp⟩
theorem stay.to_loop {α : Type} (h : stay M w0 S0 F x S W) (pre : List α) : inner (base M w0 S0) F x S [] pre W := ⟨⟨h.1.1, h.1.2⟩, h.2⟩

theorem stay.first {o : Obj} (hM : Framed M) (hm : M W' x S) (hk : Keeps Nothing (W.alloc o) W') (hS : ∀ k ∈ S, (W.alloc o).heap.size ≤ k) : stay M W [] [(W.heap.size, o)] x S W' := by
  have hw : W'.heap[W.heap.size]? = some o := (hk.block _ (by simp) id).trans (World.alloc_heap_new W o)
  refine ⟨⟨hm, (((Keeps.refl _ W).alloc o).then hk).nothing, fun k hk' => .inr ?_⟩, ?_, ?_⟩
  · simp only [own, List.map_cons, List.map_nil, List.mem_append, List.mem_cons, List.not_mem_nil, or_false] at hk'
    rcases hk' with h | h
    · have := hS k h; simp at this; omega
    · omega
  · intro y hy
    simp only [List.mem_cons, List.not_mem_nil, or_false] at hy
    subst hy
    exact hw
  · intro c hc
    simp only [own, List.map_cons, List.map_nil, List.mem_cons, List.not_mem_nil, or_false] at hc
    subst hc
    exact ⟨fun h => by have := hS _ h; simp at this; omega, by simp⟩
theorem inner_turned {α : Type} {pre pre' : List α} {G : List (Nat × Obj)} (hM : Framed M) (h : inner (base M w0 S0) F x S U pre W) (hk : Keeps (· ∈ own F) W W') (hG : Lie W' G) (ho : own G = own F) :
    inner (base M w0 S0) G x S U pre' W' ∧ Same U W W' := by
  refine ⟨⟨⟨hM.keep h.1.1 fun k hk' => hk.block k (hM.lt h.1.1 k hk') (fun h' => (h.2.2 k h').1 hk'), ?_⟩, hG, ?_⟩, hk.size, fun k hk' hlt => ?_⟩
  · rw [ho]
    exact h.1.2.trans ⟨hk.mono fun k hk' => by simp [hk'], fun k hk' => .inl hk'⟩
  · rw [ho]; exact h.2.2
  · exact hk.block k hlt fun h' => (h.2.2 k h').2 hk'

/-- A box of one's own set. -/
theorem inner_set1 {α : Type} {pre pre' : List α} {b : Nat} {u v : Value} {e : TypeId} (hM : Framed M) (h : inner (base M w0 S0) ((b, .cells #[u] e (0, 0)) :: F) x S U pre W) (hb : b ∉ own F) :
    inner (base M w0 S0) ((b, .cells #[v] e (0, 0)) :: F) x S U pre' (W.setCell ⟨b, 0, none⟩ v) ∧ Same U W (W.setCell ⟨b, 0, none⟩ v) := by
  refine inner_turned hM h ((Keeps.refl _ _).set _ _ (.inl (by simp [own]))) ?_ rfl
  intro y hy
  rcases List.mem_cons.1 hy with rfl | hy
  · have hk : Blk W b #[u] e := h.2.1 (b, _) (by simp)
    exact hk.set 0 v
  · have hne : y.1 ≠ b := fun e => hb (List.mem_map.2 ⟨y, hy, e⟩)
    exact (heap_setCell_other W ⟨b, 0, none⟩ y.1 v hne).trans (h.2.1 y (List.mem_cons_of_mem _ hy))

/-- A place of a row of one's own set. -/
theorem stay.setRow {b p : Nat} {l : List Value} {v : Value} {e : TypeId} (hM : Framed M) (h : stay M w0 S0 ((b, .cells l.toArray e (0, 0)) :: F) x S W) (hb : b ∉ own F) :
    stay M w0 S0 ((b, .cells (l.set p v).toArray e (0, 0)) :: F) x S (W.setCell ⟨b, p, none⟩ v) := by
  refine h.own_turned hM ((Keeps.refl _ _).set _ _ (.inl (by simp [own]))) ?_ rfl
  intro y hy
  rcases List.mem_cons.1 hy with rfl | hy
  · have hk : Blk W b l.toArray e := h.lie (b, _) (by simp)
    have := hk.set p v
    rw [show l.toArray.setIfInBounds p v = (l.set p v).toArray by simp] at this
    exact this
  · have hne : y.1 ≠ b := fun e => hb (List.mem_map.2 ⟨y, hy, e⟩)
    exact (heap_setCell_other W ⟨b, p, none⟩ y.1 v hne).trans (h.lie y (List.mem_cons_of_mem _ hy))

/-- A block of one's own that holds cells: as it is there. -/
theorem stay.blk (h : stay M w0 S0 F x S W) {b : Nat} {cs : Array Value} {e : TypeId} (hb : (b, Obj.cells cs e (0, 0)) ∈ F) : Blk W b cs e := h.at hb
end

/-- A call at such a state. -/
theorem stay_call {σ : Type} {M : World → σ → List Nat → Prop} {w0 : World} {S0 : List Nat} {F : List (Nat × Obj)} {x x' : σ} {S : List Nat} {W : World} {P : Program} {f : Nat} {args : Array Value} {r : Value}
    (h : stay M w0 S0 F x S W) (C : Calls P f args W fun e W' => e = .returned r ∧ ∃ S', M W' x' S' ∧ Turn S S' W W') :
    Calls P f args W fun e W' => e = .returned r ∧ ∃ S', stay M w0 S0 F x' S' W' :=
  C.mono fun _ _ ⟨he, S', hm, ht⟩ => ⟨he, S', h.turn hm ht⟩
theorem stay_kept {σ : Type} {M : World → σ → List Nat → Prop} (hM : Framed M) {w0 : World} {S0 : List Nat} {F : List (Nat × Obj)} {x : σ} {S : List Nat} {W : World} {P : Program} {f : Nat} {args : Array Value} {r : Value}
    (h : stay M w0 S0 F x S W) (C : Calls P f args W fun e W' => e = .returned r ∧ Keeps Nothing W W') :
    Calls P f args W fun e W' => e = .returned r ∧ stay M w0 S0 F x S W' :=
  C.mono fun _ _ ⟨he, hk⟩ => ⟨he, h.keep hM hk⟩

end Go.Proofs.Ytejbeioiomjbpaa
