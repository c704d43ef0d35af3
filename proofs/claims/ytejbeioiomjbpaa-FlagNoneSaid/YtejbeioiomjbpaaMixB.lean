import Derived.Test.YtejbeioiomjbpaaMix
namespace Go.Proofs.Ytejbeioiomjbpaa
open Go

section
variable {P : Program} {α β : Type}

theorem Wl.bind' {s : Sem α} {f : α → Sem β} (hs : Wl P s) (hf : ∀ a w w₁, s.run P w = .ok a w₁ → Wl P (f a)) : Wl P (s >>= f) := fun w v w₁ h => by
  rw [Sem.run_bind] at h
  cases hr : s.run P w with
  | halt x w2 => rw [hr] at h; simp at h
  | ok a w2 =>
    rw [hr, Result.andThen_ok] at h
    obtain ⟨rfl, hall⟩ := hs _ _ _ hr
    obtain ⟨rfl, hall2⟩ := hf a _ _ hr _ _ _ h
    exact ⟨rfl, fun w' => by rw [Sem.run_bind, hall w', Result.andThen_ok]; exact hall2 w'⟩

theorem Wl.rd {s : Sem α} (h : Wl P s) : Rd P s := fun w v w₁ hr => ⟨(h w v w₁ hr).1, fun w' _ => (h w v w₁ hr).2 w'⟩
theorem Rd.al {s : Sem α} (h : Rd P s) : Al P s := fun w v w₁ hr => by rw [(h w v w₁ hr).1]; exact Grows.refl w
theorem Rd.bind {s : Sem α} {f : α → Sem β} (hs : Rd P s) (hf : ∀ a, Rd P (f a)) : Rd P (s >>= f) := fun w v w₁ h => by
  rw [Sem.run_bind] at h
  cases hr : s.run P w with
  | halt x w2 => rw [hr] at h; simp at h
  | ok a w2 =>
    rw [hr, Result.andThen_ok] at h
    obtain ⟨rfl, hall⟩ := hs _ _ _ hr
    obtain ⟨rfl, hall2⟩ := hf a _ _ _ h
    exact ⟨rfl, fun w' hg => by rw [Sem.run_bind, hall w' hg, Result.andThen_ok]; exact hall2 w' hg⟩
theorem Al.bind {s : Sem α} {f : α → Sem β} (hs : Al P s) (hf : ∀ a, Al P (f a)) : Al P (s >>= f) := fun w v w₁ h => by
  rw [Sem.run_bind] at h
  cases hr : s.run P w with
  | halt x w2 => rw [hr] at h; simp at h
  | ok a w2 =>
    rw [hr, Result.andThen_ok] at h
    exact (hs _ _ _ hr).trans (hf a _ _ _ h)
theorem Al.newObj (o : Obj) : Al P (Go.newObj o) := fun w v w₁ h => by
  have h' : Result.ok w.heap.size { w with heap := w.heap.push o } = Result.ok v w₁ := h
  simp at h'
  obtain ⟨_, rfl⟩ := h'
  refine ⟨by simp, fun k hk => ?_⟩
  show (w.heap.push o)[k]? = _
  rw [Array.getElem?_push, if_neg (by omega)]

theorem seen_grows {w w' : World} (hg : Grows w w') {p : Program} {at_ : Addr} {u : TypeId} {k : Addr} {at' : Bool} {x} (h : World.seen p w at_ u k at' = .ok x) : World.seen p w' at_ u k at' = .ok x := by
  by_cases hb : at_.block < w.heap.size
  · unfold World.seen at h ⊢
    rw [hg.2 _ hb]
    exact h
  · exfalso
    unfold World.seen at h
    rw [Array.getElem?_eq_none (by omega)] at h
    revert h
    simp only [bind, Except.bind]
    repeat' (first | (intro h; cases h; done) | split)

theorem farLoad_grows {w w' : World} (hg : Grows w w') {p : Program} {a : Addr} {at' : Bool} {x} (h : World.farLoad p w a at' = .ok x) : World.farLoad p w' a at' = .ok x := by
  unfold World.farLoad at h ⊢
  by_cases hb : a.block < w.heap.size
  · rw [hg.2 _ hb]
    split at h
    · rename_i a2 u hh
      split at h
      · rename_i r hv
        cases h
        have : World.viewLoad p w' a2 u a at' = .ok x := by
          unfold World.viewLoad at hv ⊢
          cases hs : World.seen p w a2 u a at' with
          | error e => rw [hs] at hv; cases hv
          | ok y =>
            rw [seen_grows hg hs]
            rw [hs] at hv
            exact hv
        rw [this]
      · cases h
    · cases h
  · rw [Array.getElem?_eq_none (by omega)] at h
    cases h

theorem cell_grows {w w' : World} (hg : Grows w w') {a : Addr} {v : Value} (h : w.cell? a = some v) : w'.cell? a = some v := by
  have hb := World.block_lt_of_cell? w a h
  unfold World.cell? at h ⊢
  rw [hg.2 _ hb]
  exact h

theorem Rd.load (a : Addr) : Rd P (Go.load a) := fun w v w₁ h => by
  rw [run_load] at h
  cases hc : w.cell? a with
  | some u =>
    rw [hc] at h
    simp at h
    obtain ⟨rfl, rfl⟩ := h
    exact ⟨rfl, fun w' hg => by rw [run_load, cell_grows hg hc]⟩
  | none =>
    rw [hc] at h
    dsimp only at h
    split at h
    · rename_i v' l hf
      simp at h
      obtain ⟨rfl, rfl⟩ := h
      refine ⟨rfl, fun w' hg => ?_⟩
      rw [run_load]
      have hb : a.block < w.heap.size := by
        rcases Nat.lt_or_ge a.block w.heap.size with h1 | h1
        · exact h1
        · unfold World.farLoad at hf
          rw [Array.getElem?_eq_none h1] at hf
          cases hf
      have hc' : w'.cell? a = none := by
        unfold World.cell? at hc ⊢
        rw [hg.2 _ hb]
        exact hc
      rw [hc', farLoad_grows hg hf]
    · cases h
theorem Rd.loadCellsFrom (a : Addr) : ∀ (n i : Nat) (acc : Array Value), Rd P (Go.loadCellsFrom a i n acc)
  | 0, _, _ => (Wl.pure _).rd
  | n + 1, i, acc => by
    unfold Go.loadCellsFrom
    exact Rd.bind (Rd.load _) fun v => Rd.loadCellsFrom a n (i + 1) _
theorem Rd.loadVar (t : TypeId) (a : Addr) : Rd P (Go.loadVar t a) := by
  unfold Go.loadVar
  refine Rd.bind (Wl.isAgg t).rd fun b => ?_
  split
  · exact Rd.bind (Wl.sizeOf t).rd fun n => Rd.bind (Rd.loadCellsFrom a n 0 #[]) fun _ => (Wl.pure _).rd
  · exact Rd.load a
theorem Rd.loadAt (t : TypeId) (v : Value) : Rd P (Instr.loadAt t v) := by
  unfold Instr.loadAt
  exact Rd.bind (Wl.sureAddr v).rd fun a => Rd.loadVar t a

theorem Al.newRow (e : TypeId) (cs : Array Value) : Al P (Go.newRow e cs) := by
  unfold Go.newRow
  exact Al.bind (Al.newObj _) fun _ => (Wl.pure _).rd.al
theorem Al.newVar (e : TypeId) (v : Value) : Al P (Go.newVar e v) := Al.newRow _ _
theorem Al.box (e : TypeId) (v : Value) : Al P (Instr.box e v) := by
  unfold Instr.box
  exact Al.bind (Al.newVar _ _) fun _ => (Wl.pure _).rd.al
theorem Al.alloc (e : TypeId) : Al P (Instr.alloc e true (.tuple #[])) := by
  unfold Instr.alloc
  refine Al.bind (Wl.zeroValue e).rd.al fun z => ?_
  split
  · rename_i h _; cases h
  · exact Al.bind (Al.newVar _ _) fun _ => (Wl.pure _).rd.al
theorem Al.buildSlice (t : TypeId) (n : Nat) (ps : Array (Nat × Value)) : Al P (Instr.buildSlice t n ps) := by
  unfold Instr.buildSlice
  refine Al.bind (Wl.underlying t).rd.al fun d => ?_
  split
  · refine Al.bind (Wl.sizeOf _).rd.al fun k => ?_
    dsimp only
    repeat' (first | exact Al.newRow _ _ | exact (Wl.unsupported _).rd.al | exact (Wl.stuck _).rd.al | exact (Wl.pure _).rd.al | exact (Wl.zeroValue _).rd.al | refine Al.bind ?_ (fun _ => ?_) | split)
  · exact (Wl.stuck _).rd.al

theorem Wl.nilAhead : ∀ (n : Nat) (t : TypeId) (v : Value) (name : String), Wl P (Go.nilAhead n t v name) := by
  have hf : ∀ (l : List FieldStep) (t : TypeId) (x : Option Value), Wl P (Go.followBlind l t x) := by
    intro l
    induction l with
    | nil => intro t x; exact Wl.pure _
    | cons s l ih =>
      intro t x
      unfold Go.followBlind
      repeat' (first | exact ih _ _ | exact Wl.pure _ | exact Wl.stuck _ | exact Wl.underlying _ | exact Wl.part _ _ _ | refine Wl.bind ?_ (fun _ => ?_) | split | dsimp only)
  intro n
  induction n with
  | zero => intro t v name; exact Wl.pure _
  | succ n ih =>
    intro t v name
    unfold Go.nilAhead
    repeat' (first | exact ih _ _ _ | exact hf _ _ _ | exact Wl.pure _ | exact Wl.stuck _ | exact Wl.underlying _ | exact Wl.typeInfo _ | refine Wl.bind ?_ (fun _ => ?_) | split | dsimp only)

/-- The field has cells. -/
def fieldCells (P : Program) (s i : Nat) : Bool :=
  match P.underlying s with
  | some (.struct fs) => match fs[i]? with
    | some f => ((P.info? f.type).map (·.size)).getD 1 != 0
    | none => true
  | _ => true

theorem run_underlying_inv {t : TypeId} {d : TypeDesc} {w w₁ : World} (h : (Go.underlying t).run P w = .ok d w₁) : P.underlying t = some d := by
  unfold Go.underlying at h
  rw [Sem.run_bind] at h
  have hp : (Go.program).run P w = .ok P w := rfl
  rw [hp, Result.andThen_ok] at h
  split at h
  · rename_i d' hd; simp at h; rw [hd, h.1]
  · simp [Go.stuck] at h

theorem Wl.fieldAt (s : TypeId) (v : Value) (i : Nat) (hc : fieldCells P s i = true) : Wl P (Instr.fieldAt s v i) := by
  unfold Instr.fieldAt
  refine Wl.bind' (Wl.underlying s) fun d w w₁ hd => ?_
  have hd' := run_underlying_inv hd
  split
  · rename_i fs
    split
    · rename_i f hf
      simp [fieldCells, hd', hf] at hc
      refine Wl.bind (Wl.sureAddr v) fun a => Wl.bind ?_ fun _ => Wl.pure _
      unfold Go.fieldPlace
      refine Wl.bind' (Wl.sizeOf _) fun n w w₁ hn => ?_
      have hn' : n ≠ 0 := by
        unfold Go.sizeOf Go.typeInfo at hn
        simp only [Sem.run_bind] at hn
        have hp : (Go.program).run P w = .ok P w := rfl
        rw [hp] at hn
        simp only [Result.andThen_ok] at hn
        cases hi : P.info? f.type with
        | none => rw [hi] at hn; simp [Go.stuck] at hn
        | some i => rw [hi] at hn hc; simp at hn hc; omega
      rw [if_neg hn']
      exact Wl.pure _
    · exact Wl.stuck _
  · exact Wl.stuck _

def lenType (P : Program) (t : Option TypeId) : Bool :=
  match t.bind P.underlying with
  | some (.slice _) | some .string => true
  | _ => false

theorem Wl.len_ (ts : Array TypeId) (ty : TypeId) (xs : Array Value) (h : lenType P ts[0]? = true) : Wl P (Builtin.len_ ts ty xs) := by
  unfold Builtin.len_
  split
  · rename_i t x hx
    obtain ⟨h1, _⟩ : ts[0]? = some t ∧ xs[0]? = some x := by simpa using hx
    rw [lenType, h1, Option.bind_some] at h
    refine Wl.bind' (Wl.underlying _) fun d w w₁ hd => ?_
    have hd' := run_underlying_inv hd
    repeat' (first | exact Wl.pure _ | exact Wl.stuck _ | (simp [hd'] at h; done) | split)
  · exact Wl.stuck _
theorem Wl.cap_ (ts : Array TypeId) (ty : TypeId) (xs : Array Value) (h : lenType P ts[0]? = true) : Wl P (Builtin.cap_ ts ty xs) := by
  unfold Builtin.cap_
  split
  · rename_i t x hx
    obtain ⟨h1, _⟩ : ts[0]? = some t ∧ xs[0]? = some x := by simpa using hx
    rw [lenType, h1, Option.bind_some] at h
    refine Wl.bind' (Wl.underlying _) fun d w w₁ hd => ?_
    have hd' := run_underlying_inv hd
    repeat' (first | exact Wl.pure _ | exact Wl.stuck _ | (simp [hd'] at h; done) | split)
  · exact Wl.stuck _

theorem Wl.listMapM {α β : Type} (f : α → Sem β) (hf : ∀ a, Wl P (f a)) : ∀ l : List α, Wl P (l.mapM f)
  | [] => by rw [List.mapM_nil]; exact Wl.pure _
  | a :: l => by
    rw [List.mapM_cons]
    exact Wl.bind (hf a) fun _ => Wl.bind (Wl.listMapM f hf l) fun _ => Wl.pure _
theorem Wl.arrayMapM {α β : Type} (f : α → Sem β) (hf : ∀ a, Wl P (f a)) (l : Array α) : Wl P (l.mapM f) := by
  rw [Array.mapM_eq_mapM_toList]
  exact Wl.map (Wl.listMapM f hf _)
theorem Wl.build (t : TypeId) (ps : Array (Nat × Value)) : Wl P (Instr.build t ps) := by
  unfold Instr.build
  refine Wl.bind (Wl.zeroValue t) fun z => Wl.bind (Wl.underlying t) fun d => ?_
  split
  · refine Wl.bind (Wl.arrayMapM _ (fun f => Wl.bind (Wl.sizeOf _) fun _ => Wl.pure _) _) fun _ => ?_
    repeat' (first | exact Wl.pure _ | exact Wl.stuck _ | split)
  · refine Wl.bind (Wl.sizeOf _) fun _ => ?_
    repeat' (first | exact Wl.pure _ | exact Wl.stuck _ | split)
  · exact Wl.stuck _

/-- The operations that look at no memory. -/
def wlB (P : Program) : Op → Bool
  | .move _ | .assign _ | .pick .. | .build .. | .nilCheck _ | .slice .. | .indexAddr .. | .index .. | .field .. | .extract .. | .makeFunc .. | .makeInterface .. => true
  | .fieldAddr s _ i => fieldCells P s i
  | .call { callee := .builtin .len, argTypes := ts, .. } => lenType P ts[0]?
  | .call { callee := .builtin .cap, argTypes := ts, .. } => lenType P ts[0]?
  | .unOp .not _ _ => true
  | _ => false
def rdB (P : Program) : Op → Bool
  | .load .. => true
  | o => wlB P o
def alB (P : Program) : Op → Bool
  | .alloc _ | .box .. | .buildSlice .. => true
  | o => rdB P o

/-- What an operation yields is a value. -/
def Vals (P : Program) (s : Sem Next) : Prop := ∀ w n w₁, s.run P w = .ok n w₁ → ∃ u, n = .value u
theorem Vals.of (s : Sem Value) : Vals P (do let v ← s; Pure.pure (Next.value v)) := fun w n w₁ h => by
  rw [Sem.run_bind] at h
  cases hr : s.run P w with
  | halt x w2 => rw [hr] at h; simp at h
  | ok a w2 => rw [hr, Result.andThen_ok] at h; simp at h; exact ⟨a, h.1.symm⟩
theorem Vals.pure (u : Value) : Vals P (Pure.pure (Next.value u)) := fun w n w₁ h => by simp at h; exact ⟨u, h.1.symm⟩

theorem nilCheck_wl (ρ : Operand → Value) (o : Oper) (x : Operand) (ho : o.op = .nilCheck x) : Wl P (execOp ρ o) ∧ Vals P (execOp ρ o) := by
  unfold execOp
  simp only [ho]
  constructor
  · repeat' (first | exact Wl.pure _ | exact Wl.unsupported _ | exact Wl.runtimePanic _ | exact Wl.nilAhead _ _ _ _ | exact Wl.program | refine Wl.bind ?_ (fun _ => ?_) | split | dsimp only)
  · repeat' (first | exact Vals.pure _ | (intro w n w₁ h; obtain ⟨_, _, h'⟩ := runtimePanic_halts (P := P) (α := Next) .nilDeref w; rw [h'] at h; cases h; done) | split | dsimp only)
    intro w n w₁ h
    revert h
    simp only [Sem.run_bind]
    generalize Sem.run P Go.program w = r
    cases r with
    | halt x w2 => simp
    | ok p w2 =>
      simp only [Result.andThen_ok]
      generalize Sem.run P (Go.nilAhead _ _ _ _) w2 = r
      cases r with
      | halt x w2 => simp
      | ok p w2 =>
        simp only [Result.andThen_ok]
        split <;> intro h
        · simp [Go.unsupported] at h
        · simp at h; exact ⟨_, h.1.symm⟩

theorem wl_of (ρ : Operand → Value) (o : Oper) (h : wlB P o.op = true) : Wl P (execOp ρ o) ∧ Vals P (execOp ρ o) := by
  obtain ⟨dst, op, type, pos, after, guard⟩ := o
  cases op <;> simp only [wlB, Bool.false_eq_true] at h
  case nilCheck x => exact nilCheck_wl ρ _ x rfl
  case move x => exact ⟨Wl.pure _, Vals.pure _⟩
  case assign x => exact ⟨Wl.pure _, Vals.pure _⟩
  case pick c a b => exact ⟨Wl.bind (Wl.asBool _) fun _ => Wl.pure _, by
    unfold execOp
    intro w n w₁ hr
    rw [Sem.run_bind] at hr
    cases h2 : (asBool (ρ c)).run P w with
    | halt x w2 => rw [h2] at hr; simp at hr
    | ok b w2 => rw [h2, Result.andThen_ok] at hr; simp at hr; exact ⟨_, hr.1.symm⟩⟩
  case slice => exact ⟨Wl.bind (Wl.sliceAt _ _ _ _ _) fun _ => Wl.pure _, Vals.of _⟩
  case indexAddr => exact ⟨Wl.bind (Wl.indexAt _ _ _) fun _ => Wl.pure _, Vals.of _⟩
  case build => exact ⟨Wl.bind (Wl.build _ _) fun _ => Wl.pure _, Vals.of _⟩
  case index => exact ⟨Wl.bind (Wl.index _ _ _) fun _ => Wl.pure _, Vals.of _⟩
  case field => exact ⟨Wl.bind (Wl.field _ _ _) fun _ => Wl.pure _, Vals.of _⟩
  case extract => exact ⟨Wl.bind (Wl.extract _ _) fun _ => Wl.pure _, Vals.of _⟩
  case makeFunc => exact ⟨Wl.bind (Wl.pure _) fun _ => Wl.pure _, Vals.of _⟩
  case makeInterface => exact ⟨Wl.bind (Wl.makeInterface _ _) fun _ => Wl.pure _, Vals.of _⟩
  case fieldAddr => exact ⟨Wl.bind (Wl.fieldAt _ _ _ h) fun _ => Wl.pure _, Vals.of _⟩
  case unOp op t x =>
    cases op <;> simp only [Bool.false_eq_true] at h
    refine ⟨Wl.bind ?_ fun _ => Wl.pure _, Vals.of _⟩
    unfold Op.unary
    repeat' (first | exact Wl.pure _ | exact Wl.stuck _ | exact Wl.unsupported _ | (unfold Op.intArith; dsimp only) | (unfold Op.intBits; dsimp only) | split)
  case call c =>
    obtain ⟨cal, args, ts⟩ := c
    cases cal with
    | value f => simp at h
    | invoke r m => simp at h
    | builtin b =>
      cases b <;> simp only [Bool.false_eq_true] at h
      · exact ⟨show Wl P (do let v ← Builtin.cap_ ts type (args.map ρ); Pure.pure (Next.value v)) from Wl.bind (Wl.cap_ _ _ _ h) fun _ => Wl.pure _,
          show Vals P (do let v ← Builtin.cap_ ts type (args.map ρ); Pure.pure (Next.value v)) from Vals.of _⟩
      · exact ⟨show Wl P (do let v ← Builtin.len_ ts type (args.map ρ); Pure.pure (Next.value v)) from Wl.bind (Wl.len_ _ _ _ h) fun _ => Wl.pure _,
          show Vals P (do let v ← Builtin.len_ ts type (args.map ρ); Pure.pure (Next.value v)) from Vals.of _⟩

theorem rd_of (ρ : Operand → Value) (o : Oper) (h : rdB P o.op = true) : Rd P (execOp ρ o) ∧ Vals P (execOp ρ o) := by
  by_cases hw : wlB P o.op = true
  · exact ⟨(wl_of ρ o hw).1.rd, (wl_of ρ o hw).2⟩
  · obtain ⟨dst, op, type, pos, after, guard⟩ := o
    cases op
    case load t x => exact ⟨Rd.bind (Rd.loadAt _ _) fun _ => (Wl.pure _).rd, Vals.of _⟩
    all_goals exact absurd h hw
theorem al_of (ρ : Operand → Value) (o : Oper) (h : alB P o.op = true) : Al P (execOp ρ o) ∧ Vals P (execOp ρ o) := by
  by_cases hw : rdB P o.op = true
  · exact ⟨(rd_of ρ o hw).1.al, (rd_of ρ o hw).2⟩
  · obtain ⟨dst, op, type, pos, after, guard⟩ := o
    cases op
    case alloc t => exact ⟨Al.bind (Al.alloc _) fun _ => (Wl.pure _).rd.al, Vals.of _⟩
    case box t x => exact ⟨Al.bind (Al.box _ _) fun _ => (Wl.pure _).rd.al, Vals.of _⟩
    case buildSlice t n ps => exact ⟨Al.bind (Al.buildSlice _ _ _) fun _ => (Wl.pure _).rd.al, Vals.of _⟩
    all_goals exact absurd h hw

end
end Go.Proofs.Ytejbeioiomjbpaa
