/-
  A statement whose order Go leaves open, walked once in the order of its text: where each two operations that may change places are independent of each other.
-/
import Derived.Orders
import Derived.Still
import Derived.Tactics
import Derived.KernelRfl
namespace Go.Proofs.Ytejbeioiomjbpaa
open Go

/-- What was there is there as it was. -/
def Grows (w w' : World) : Prop := w.heap.size ≤ w'.heap.size ∧ ∀ k, k < w.heap.size → w'.heap[k]? = w.heap[k]?
theorem Grows.refl (w : World) : Grows w w := ⟨Nat.le_refl _, fun _ _ => rfl⟩
theorem Grows.trans {a b c : World} (h : Grows a b) (k : Grows b c) : Grows a c :=
  ⟨Nat.le_trans h.1 k.1, fun i hi => (k.2 i (Nat.lt_of_lt_of_le hi h.1)).trans (h.2 i hi)⟩

section sems
variable {P : Program} {α β : Type}

/-- It looks at no memory, and turns none. -/
def Wl (P : Program) (s : Sem α) : Prop := ∀ w v w₁, s.run P w = .ok v w₁ → w₁ = w ∧ ∀ w', s.run P w' = .ok v w'
/-- It turns no memory, and looks at what is there. -/
def Rd (P : Program) (s : Sem α) : Prop := ∀ w v w₁, s.run P w = .ok v w₁ → w₁ = w ∧ ∀ w', Grows w w' → s.run P w' = .ok v w'
/-- It may make memory. -/
def Al (P : Program) (s : Sem α) : Prop := ∀ w v w₁, s.run P w = .ok v w₁ → Grows w w₁

theorem Wl.pure (a : α) : Wl P (Pure.pure a : Sem α) := fun w v w₁ h => by simp at h; obtain ⟨rfl, rfl⟩ := h; exact ⟨rfl, fun _ => rfl⟩
theorem Wl.halt (x : Halt) : Wl P (Sem.halt x : Sem α) := fun w v w₁ h => by simp at h
theorem Wl.stuck (x : String) : Wl P (Go.stuck x : Sem α) := Wl.halt _
theorem Wl.unsupported (x : Unsupported) : Wl P (Go.unsupported x : Sem α) := Wl.halt _
theorem Wl.bind {s : Sem α} {f : α → Sem β} (hs : Wl P s) (hf : ∀ a, Wl P (f a)) : Wl P (s >>= f) := fun w v w₁ h => by
  rw [Sem.run_bind] at h
  cases hr : s.run P w with
  | halt x w2 => rw [hr] at h; simp at h
  | ok a w2 =>
    rw [hr, Result.andThen_ok] at h
    obtain ⟨rfl, hall⟩ := hs _ _ _ hr
    obtain ⟨rfl, hall2⟩ := hf a _ _ _ h
    exact ⟨rfl, fun w' => by rw [Sem.run_bind, hall w', Result.andThen_ok]; exact hall2 w'⟩
theorem Wl.program : Wl P Go.program := fun w v w₁ h => by
  have h' : Result.ok P w = Result.ok v w₁ := h
  simp at h'; obtain ⟨rfl, rfl⟩ := h'; exact ⟨rfl, fun _ => rfl⟩
theorem Wl.of_halts {s : Sem α} (h : ∀ w, ∃ x w', s.run P w = .halt x w') : Wl P s := fun w v w₁ hr => by
  obtain ⟨x, w', h'⟩ := h w; rw [h'] at hr; cases hr
theorem Wl.ite {c : Prop} [Decidable c] {s t : Sem α} (hs : Wl P s) (ht : Wl P t) : Wl P (if c then s else t) := by split <;> assumption
theorem Wl.map {s : Sem α} {f : α → β} (hs : Wl P s) : Wl P (f <$> s) := fun w v w₁ h => by
  rw [Sem.run_map] at h
  cases hr : s.run P w with
  | halt x w2 => rw [hr] at h; simp at h
  | ok a w2 =>
    rw [hr, Result.andThen_ok] at h
    obtain ⟨rfl, hall⟩ := hs _ _ _ hr
    simp at h
    obtain ⟨rfl, rfl⟩ := h
    exact ⟨rfl, fun w' => by rw [Sem.run_map, hall w', Result.andThen_ok]⟩

theorem Wl.typeInfo (t : TypeId) : Wl P (Go.typeInfo t) := by
  unfold Go.typeInfo
  refine Wl.bind Wl.program fun p => ?_
  split
  · exact Wl.pure _
  · exact Wl.stuck _
theorem Wl.underlying (t : TypeId) : Wl P (Go.underlying t) := by
  unfold Go.underlying
  refine Wl.bind Wl.program fun p => ?_
  split
  · exact Wl.pure _
  · exact Wl.stuck _
theorem Wl.sizeOf (t : TypeId) : Wl P (Go.sizeOf t) := by
  unfold Go.sizeOf
  exact Wl.bind (Wl.typeInfo t) fun _ => Wl.pure _
theorem Wl.zeroValue (t : TypeId) : Wl P (Go.zeroValue t) := by
  unfold Go.zeroValue
  refine Wl.bind (Wl.typeInfo t) fun i => ?_
  split
  · exact Wl.pure _
  · exact Wl.unsupported _
theorem Wl.isAgg (t : TypeId) : Wl P (Go.isAgg t) := by
  unfold Go.isAgg
  refine Wl.bind (Wl.underlying t) fun i => ?_
  split <;> exact Wl.pure _
theorem Wl.part (t : TypeId) (cs : Array Value) (off : Nat) : Wl P (Go.part t cs off) := by
  unfold Go.part
  refine Wl.bind (Wl.isAgg t) fun i => ?_
  split
  · exact Wl.bind (Wl.sizeOf t) fun _ => Wl.pure _
  · split
    · exact Wl.pure _
    · exact Wl.stuck _
theorem runtimePanic_halts (e : RuntimeError) (w : World) : ∃ x w', (Go.runtimePanic e : Sem α).run P w = .halt x w' := by
  cases hr : (Go.runtimePanic e : Sem α).run P w with
  | halt x w' => exact ⟨x, w', rfl⟩
  | ok a w' =>
    exfalso
    unfold Go.runtimePanic at hr
    rw [Sem.run_bind] at hr
    cases hp : (Go.program).run P w with
    | halt x w' => rw [hp] at hr; simp at hr
    | ok p w2 =>
      rw [hp, Result.andThen_ok] at hr
      cases e <;> simp only [Go.goPanic, Sem.run_halt, Sem.run_bind] at hr
      all_goals first
        | (cases hr; done)
        | (generalize Sem.run P _ w2 = r at hr
           cases r with
           | halt x w' => simp at hr
           | ok a w' =>
             simp only [Result.andThen_ok] at hr
             generalize Sem.run P _ w' = r at hr
             cases r <;> simp at hr)
theorem boundsPanic_halts (k : IntKind) (x y : Int) (c : BoundsCode) (w : World) : ∃ h w', (Go.boundsPanic k x y c : Sem α).run P w = .halt h w' := by
  unfold Go.boundsPanic
  dsimp only
  split <;> rw [Sem.run_bind]
  · generalize Sem.run P (_ : Sem Bool) w = r
    cases r with
    | halt h w' => exact ⟨h, w', rfl⟩
    | ok b w' => rw [Result.andThen_ok]; exact runtimePanic_halts _ w'
  · rw [Sem.run_pure, Result.andThen_ok]; exact runtimePanic_halts _ w
theorem Wl.runtimePanic (e : RuntimeError) : Wl P (Go.runtimePanic e : Sem α) := Wl.of_halts (runtimePanic_halts e)
theorem Wl.boundsPanic (k : IntKind) (x y : Int) (c : BoundsCode) : Wl P (Go.boundsPanic k x y c : Sem α) := Wl.of_halts (boundsPanic_halts k x y c)
theorem Wl.asIntOf (v : Value) : Wl P (Go.asIntOf v) := by
  unfold Go.asIntOf
  split
  · exact Wl.pure _
  · exact Wl.unsupported _
  · exact Wl.stuck _
theorem Wl.asBool (v : Value) : Wl P (Go.asBool v) := by
  unfold Go.asBool
  split
  · exact Wl.pure _
  · exact Wl.stuck _
theorem Wl.asAgg (v : Value) : Wl P (Go.asAgg v) := by
  unfold Go.asAgg
  split
  · exact Wl.pure _
  · exact Wl.stuck _
theorem Wl.asAddr (v : Value) : Wl P (Go.asAddr v) := by
  unfold Go.asAddr
  split
  · exact Wl.pure _
  · exact Wl.runtimePanic _
  · exact Wl.stuck _
theorem Wl.sureAddr (v : Value) : Wl P (Instr.sureAddr v) := by
  unfold Instr.sureAddr
  split
  · exact Wl.pure _
  · exact Wl.stuck _
theorem Wl.sliceBound (x : Value) (y : Nat) (c : BoundsCode) : Wl P (Instr.sliceBound x y c) := by
  unfold Instr.sliceBound
  repeat' (first | exact Wl.pure _ | exact Wl.stuck _ | exact Wl.unsupported _ | exact Wl.boundsPanic _ _ _ _ | exact Wl.runtimePanic _ | exact Wl.underlying _ | exact Wl.sizeOf _ | exact Wl.typeInfo _ | exact Wl.zeroValue _ | exact Wl.isAgg _ | exact Wl.part _ _ _ | exact Wl.asIntOf _ | exact Wl.asBool _ | exact Wl.asAgg _ | exact Wl.asAddr _ | exact Wl.sureAddr _ | exact Wl.program | refine Wl.bind ?_ (fun _ => ?_) | split | dsimp only)
theorem Wl.sliceBounds (s : Bool) (len cap : Nat) (lo hi mx : Option Value) : Wl P (Instr.sliceBounds s len cap lo hi mx) := by
  unfold Instr.sliceBounds
  repeat' (first | exact Wl.pure _ | exact Wl.stuck _ | exact Wl.unsupported _ | exact Wl.boundsPanic _ _ _ _ | exact Wl.runtimePanic _ | exact Wl.underlying _ | exact Wl.sizeOf _ | exact Wl.typeInfo _ | exact Wl.zeroValue _ | exact Wl.isAgg _ | exact Wl.part _ _ _ | exact Wl.asIntOf _ | exact Wl.asBool _ | exact Wl.asAgg _ | exact Wl.asAddr _ | exact Wl.sureAddr _ | exact Wl.sliceBound _ _ _ | exact Wl.program | refine Wl.bind ?_ (fun _ => ?_) | split | dsimp only)
theorem Wl.slice (t : TypeId) (x : Value) (lo hi mx : Option Value) : Wl P (Instr.slice t x lo hi mx) := by
  unfold Instr.slice
  repeat' (first | exact Wl.pure _ | exact Wl.stuck _ | exact Wl.unsupported _ | exact Wl.boundsPanic _ _ _ _ | exact Wl.runtimePanic _ | exact Wl.underlying _ | exact Wl.sizeOf _ | exact Wl.typeInfo _ | exact Wl.zeroValue _ | exact Wl.isAgg _ | exact Wl.part _ _ _ | exact Wl.asIntOf _ | exact Wl.asBool _ | exact Wl.asAgg _ | exact Wl.asAddr _ | exact Wl.sureAddr _ | exact Wl.sliceBound _ _ _ | exact Wl.program | exact Wl.sliceBounds _ _ _ _ _ _ | refine Wl.bind ?_ (fun _ => ?_) | split | dsimp only)
theorem Wl.sliceAt (t : TypeId) (x : Value) (lo hi mx : Option Value) : Wl P (Instr.sliceAt t x lo hi mx) := by
  unfold Instr.sliceAt
  repeat' (first | exact Wl.pure _ | exact Wl.stuck _ | exact Wl.unsupported _ | exact Wl.boundsPanic _ _ _ _ | exact Wl.runtimePanic _ | exact Wl.underlying _ | exact Wl.sizeOf _ | exact Wl.typeInfo _ | exact Wl.zeroValue _ | exact Wl.isAgg _ | exact Wl.part _ _ _ | exact Wl.asIntOf _ | exact Wl.asBool _ | exact Wl.asAgg _ | exact Wl.asAddr _ | exact Wl.sureAddr _ | exact Wl.sliceBound _ _ _ | exact Wl.program | exact Wl.sliceBounds _ _ _ _ _ _ | exact Wl.slice _ _ _ _ _ | refine Wl.bind ?_ (fun _ => ?_) | split | dsimp only)
theorem Wl.indexAt (t : TypeId) (x i : Value) : Wl P (Instr.indexAt t x i) := by
  unfold Instr.indexAt
  repeat' (first | exact Wl.pure _ | exact Wl.stuck _ | exact Wl.unsupported _ | exact Wl.boundsPanic _ _ _ _ | exact Wl.runtimePanic _ | exact Wl.underlying _ | exact Wl.sizeOf _ | exact Wl.typeInfo _ | exact Wl.zeroValue _ | exact Wl.isAgg _ | exact Wl.part _ _ _ | exact Wl.asIntOf _ | exact Wl.asBool _ | exact Wl.asAgg _ | exact Wl.asAddr _ | exact Wl.sureAddr _ | exact Wl.sliceBound _ _ _ | exact Wl.program | refine Wl.bind ?_ (fun _ => ?_) | split | dsimp only)
theorem Wl.index (t : TypeId) (x i : Value) : Wl P (Instr.index t x i) := by
  unfold Instr.index
  repeat' (first | exact Wl.pure _ | exact Wl.stuck _ | exact Wl.unsupported _ | exact Wl.boundsPanic _ _ _ _ | exact Wl.runtimePanic _ | exact Wl.underlying _ | exact Wl.sizeOf _ | exact Wl.typeInfo _ | exact Wl.zeroValue _ | exact Wl.isAgg _ | exact Wl.part _ _ _ | exact Wl.asIntOf _ | exact Wl.asBool _ | exact Wl.asAgg _ | exact Wl.asAddr _ | exact Wl.sureAddr _ | exact Wl.sliceBound _ _ _ | exact Wl.program | refine Wl.bind ?_ (fun _ => ?_) | split | dsimp only)
theorem Wl.field (t : TypeId) (x : Value) (i : Nat) : Wl P (Instr.field t x i) := by
  unfold Instr.field
  repeat' (first | exact Wl.pure _ | exact Wl.stuck _ | exact Wl.unsupported _ | exact Wl.boundsPanic _ _ _ _ | exact Wl.runtimePanic _ | exact Wl.underlying _ | exact Wl.sizeOf _ | exact Wl.typeInfo _ | exact Wl.zeroValue _ | exact Wl.isAgg _ | exact Wl.part _ _ _ | exact Wl.asIntOf _ | exact Wl.asBool _ | exact Wl.asAgg _ | exact Wl.asAddr _ | exact Wl.sureAddr _ | exact Wl.sliceBound _ _ _ | exact Wl.program | refine Wl.bind ?_ (fun _ => ?_) | split | dsimp only)
theorem Wl.extract (x : Value) (i : Nat) : Wl P (Instr.extract x i) := by
  unfold Instr.extract
  repeat' (first | exact Wl.pure _ | exact Wl.stuck _ | exact Wl.unsupported _ | exact Wl.boundsPanic _ _ _ _ | exact Wl.runtimePanic _ | exact Wl.underlying _ | exact Wl.sizeOf _ | exact Wl.typeInfo _ | exact Wl.zeroValue _ | exact Wl.isAgg _ | exact Wl.part _ _ _ | exact Wl.asIntOf _ | exact Wl.asBool _ | exact Wl.asAgg _ | exact Wl.asAddr _ | exact Wl.sureAddr _ | exact Wl.sliceBound _ _ _ | exact Wl.program | refine Wl.bind ?_ (fun _ => ?_) | split | dsimp only)
theorem Wl.makeInterface (t : TypeId) (x : Value) : Wl P (Instr.makeInterface t x) := by
  unfold Instr.makeInterface
  repeat' (first | exact Wl.pure _ | exact Wl.stuck _ | exact Wl.unsupported _ | exact Wl.boundsPanic _ _ _ _ | exact Wl.runtimePanic _ | exact Wl.underlying _ | exact Wl.sizeOf _ | exact Wl.typeInfo _ | exact Wl.zeroValue _ | exact Wl.isAgg _ | exact Wl.part _ _ _ | exact Wl.asIntOf _ | exact Wl.asBool _ | exact Wl.asAgg _ | exact Wl.asAddr _ | exact Wl.sureAddr _ | exact Wl.sliceBound _ _ _ | exact Wl.program | refine Wl.bind ?_ (fun _ => ?_) | split | dsimp only)
end sems
end Go.Proofs.Ytejbeioiomjbpaa
