/-
  A range over a function, at the wide fence: the loop's record in memory, a round out of its body's walk, the statement, and a function's end behind such a loop.
-/
import Derived.RangeFuncNested
import Derived.RangeFuncBound
import Derived.RangeFuncCalls
import Derived.RangeFuncLeaves
import Derived.OwnWalkIn
import Derived.TacticsInMore
import Derived.LoopNIn
import Derived.LoopIn
import Derived.Shelf.Abstract
import Derived.Test.YtejbeioiomjbpaaBase
namespace Go.Proofs.Ytejbeioiomjbpaa
open Go.RowKit

theorem run_equalIn_func_nil {P : Program} (w : World) (d : Nat) (t : TypeId) {ps rs : Array TypeId} {v : Bool} (f : Fn) (r cs : Array Value) (h : P.underlying t = some (.func ps rs v)) : (Op.equalIn (d + 1) t (.func f r cs) .nilFunc).run P w = .ok false w := by
  simp [Op.equalIn, run_underlying h]
theorem run_eql_func_nil {P : Program} (w : World) (t : TypeId) {ps rs : Array TypeId} {v : Bool} (f : Fn) (r cs : Array Value) (h : P.underlying t = some (.func ps rs v)) : (binOp .eql t (.func f r cs) .nilFunc).run P w = .ok (.bool false) w := by
  simp only [binOp]
  simp [Op.equal, Op.maxDepth, run_equalIn_func_nil w 9999 t f r cs h]

/-- A call of yield of the loop l, as the walk takes it. -/
def Yields (P : Program) (l : Nat) (args : Array Value) (W : World) (R : Ending → World → Prop) : Prop :=
  ∀ m, YieldAt Fence.wide m P l args W R

theorem Yields.mono {P : Program} {l : Nat} {args : Array Value} {W : World} {R R' : Ending → World → Prop} (h : Yields P l args W R) (hr : ∀ e w, R e w → R' e w) : Yields P l args W R' :=
  fun m => (h m).mono hr

theorem calls_inRound {n : Nat} {P : Program} {f : FuncId} {args : Array Value} {w : World} {R : Ending → World → Prop} (l : Nat) (h : Calls P f args w R) : CallsIn (Fence.wide.inRound l) n P f args w R :=
  CallsIn.inRound l (callsIn_wide.2 h)

/-- The record of an outermost loop. -/
def loopRec (fn : FuncId) (tmps : Array Value) (ps : Array Tmp) (assign body : Code) (D : Nat) (st : LoopState) (pe : Option Code) : Loop :=
  { state := st, pending := pe, fn, tmps, params := ps, assign, body, defers := D }

/-- How the body of a round ends: the record lies busy; what is asked with the record as the end leaves it. -/
def roundEnd (l : Nat) (r : LoopState → Option Code → Loop) (R : Ending → World → Prop) : Exit → Act → World → Prop
  | .normal, _, W => W.heap[l]? = some (.loop (r .busy none)) ∧ R (.returned (.bool true)) (W.putObj l (.loop (r .ready none)))
  | .ret, _, W => W.heap[l]? = some (.loop (r .busy none)) ∧ R (.returned (.bool false)) (W.putObj l (.loop (r .done (some .ret))))
  | .exit id, _, W => W.heap[l]? = some (.loop (r .busy none)) ∧ R (.returned (.bool false)) (W.putObj l (.loop (r .done (some (.exit id)))))
  | .goto t, _, W => W.heap[l]? = some (.loop (r .busy none)) ∧ R (.returned (.bool false)) (W.putObj l (.loop (r .done (some (.goto t)))))
  | .panic _, _, _ => False
  | .outgrown, _, _ => False

theorem roundPost_of_end {P : Program} {l : Nat} {fn : FuncId} {tmps : Array Value} {ps : Array Tmp} {assign body : Code} {D : Nat} {R : Ending → World → Prop} :
    ∀ (e : Exit) (a : Act) (W : World), roundEnd l (loopRec fn tmps ps assign body D) R e a W → roundPost P l R e a W := by
  intro e a W h
  cases e with
  | normal => exact ⟨_, _, run_endRound none h.1, h.2⟩
  | ret => exact ⟨_, _, run_endRound (some .ret) h.1, h.2⟩
  | exit id => exact ⟨_, _, run_endRound (some (.exit id)) h.1, h.2⟩
  | goto t => exact ⟨_, _, run_endRound (some (.goto t)) h.1, h.2⟩
  | panic ch => exact h
  | outgrown => exact h

/-- A round, out of the walk of what is assigned and of the body. -/
theorem yields_of_body {P : Program} {l : Nat} {fn : FuncId} {tmps : Array Value} {ps : Array Tmp} {assign body : Code} {D : Nat} {args : Array Value} {W : World} {R : Ending → World → Prop}
    (hl : W.heap[l]? = some (.loop (loopRec fn tmps ps assign body D .ready none))) (hs : args.size = ps.size)
    (h : ∀ m, assign.wpIn (Fence.wide.inRound l) m P (Exit.then (fun a₁ W₁ => W₁.heap[l]? = some (.loop (loopRec fn tmps ps assign body D .ready none)) ∧
        body.wpIn (Fence.wide.inRound l) m P (roundEnd l (loopRec fn tmps ps assign body D) R) a₁ (W₁.putObj l (.loop (loopRec fn tmps ps assign body D .busy none)))) (fun _ _ _ => False))
      { tmps := (ps.zip args).foldl (fun tmps (t, a) => tmps.setIfInBounds t a) tmps, defers := [] } W) :
    Yields P l args W R := by
  intro m
  refine ⟨fn, _, assign, body, run_yield hl hs, roundIn_of_wpIn trivial (wpIn_mono (h m) ?_)⟩
  intro e a W₁ hq
  cases e with
  | normal =>
    obtain ⟨h1, h2⟩ := hq
    exact ⟨_, run_beginRound h1 rfl, wpIn_mono h2 roundPost_of_end⟩
  | ret => exact hq
  | exit id => exact hq
  | goto t => exact hq
  | panic ch => exact hq
  | outgrown => exact hq

/-- Behind the function that was ranged over. -/
def rangeEnd (P : Program) (l : Nat) (r : LoopState → Option Code → Loop) (Q : Exit → Act → World → Prop) (a' : Act) : Ending → World → Prop
  | .returned _, W => (W.heap[l]? = some (.loop (r .ready none)) ∧ Q .normal a' (W.putObj l (.loop (r .exhausted none)))) ∨
      (∃ c, W.heap[l]? = some (.loop (r .done (some c))) ∧ c.wp P Q a' (W.putObj l (.loop (r .exhausted (some c)))))
  | .panicked _, _ => False
  | .outgrown, _ => False

/-- The world with the loop's two blocks. -/
def World.looped (w : World) (fn : FuncId) (tmps : Array Value) (ps : Array Tmp) (assign body : Code) : World :=
  (w.alloc (.deferred (some []))).alloc (.loop (loopRec fn tmps ps assign body w.heap.size .ready none))

theorem looped_rec (w : World) (fn : FuncId) (tmps : Array Value) (ps : Array Tmp) (assign body : Code) :
    (World.looped w fn tmps ps assign body).heap[w.heap.size + 1]? = some (.loop (loopRec fn tmps ps assign body w.heap.size .ready none)) := by
  have := World.alloc_heap_new (w.alloc (.deferred (some []))) (.loop (loopRec fn tmps ps assign body w.heap.size .ready none))
  rwa [World.size_alloc] at this
theorem looped_def (w : World) (fn : FuncId) (tmps : Array Value) (ps : Array Tmp) (assign body : Code) :
    (World.looped w fn tmps ps assign body).heap[w.heap.size]? = some (.deferred (some [])) :=
  (Below.heap_alloc _ _ _ (by simp)).trans (World.alloc_heap_new w _)
theorem looped_keeps (w : World) (fn : FuncId) (tmps : Array Value) (ps : Array Tmp) (assign body : Code) : Keeps Nothing w (World.looped w fn tmps ps assign body) :=
  ((Keeps.refl _ _).alloc _).alloc _

/-- The statement, at an outermost loop. -/
theorem wp_range {P : Program} {g : Operand} {ps : Array Tmp} {assign body : Code} {Q : Exit → Act → World → Prop} {a : Act} {w : World} {gf : Nat} {lb : Array Value}
    (hg : a.eval g = .func (.func gf) #[] lb) (eg : ∀ args w, (callFunc gf args).run P w = .ok (.enter gf args) w)
    (h : ∀ fn, Calls P gf (#[.func (.yield (w.heap.size + 1)) #[] #[]] ++ lb) (World.looped w fn a.tmps ps assign body)
      (rangeEnd P (w.heap.size + 1) (loopRec fn a.tmps ps assign body w.heap.size) Q { a with defers := { target := .collected w.heap.size, args := #[] } :: a.defers })) :
    (Code.rangeFunc g ps assign body).wp P Q a w := by
  refine (wpIn_wide (n := 0)).1 (wpIn_rangeFunc ?_)
  intro fn _
  refine ⟨w.heap.size + 1, [{ target := .collected w.heap.size, args := #[] }], World.looped w fn a.tmps ps assign body, { target := .fn (.func gf) lb, args := #[.func (.yield (w.heap.size + 1)) #[] #[]] }, World.looped w fn a.tmps ps assign body, gf,
    #[.func (.yield (w.heap.size + 1)) #[] #[]] ++ lb, World.looped w fn a.tmps ps assign body, ?_, ?_, fun _ _ => trivial, ?_, fun h => by simp [Fence.wide] at h, ?_⟩
  · exact run_enterLoop_outer _ _ _ _ _
  · simp only [resolve, hg]
    simp [go_sem]
  · simp [invoke, go_sem, eg]
  · refine (callsIn_wide.2 (h fn)).mono ?_
    rintro e W hq
    cases e with
    | returned v =>
      rcases hq with ⟨hl, hq⟩ | ⟨c, hl, hq⟩
      · exact ⟨_, _, run_endLoop hl (by simp [loopRec]), hq⟩
      · exact ⟨_, _, run_endLoop hl (by simp [loopRec]), wpIn_wide.2 hq⟩
    | panicked ch => exact hq.elim
    | outgrown => exact hq.elim

/-- How a function is left that holds ranges over functions. -/
def bodyPostN (P : Program) (fn : Func) (R : Ending → World → Prop) : Exit → Act → World → Prop := bodyPostM Fence.wide 0 P fn R

theorem calls_of_wpN {P : Program} {f : FuncId} {fn : Func} {c : Code} {args : Array Value} {w : World} {R : Ending → World → Prop}
    (hf : P.funcs[f]? = some fn) (hb : fn.body = some c) (h : c.wp P (bodyPostN P fn R) { tmps := args ++ Array.replicate (fn.ntmps - args.size) undef, defers := [] } w) : Calls P f args w R :=
  callsIn_wide.1 (callsIn_of_wp_marks (n := 0) hf hb trivial (wpIn_wide.2 h) rfl)

/-- The world behind the marks. -/
def World.shut (w : World) : List Nat → World
  | [] => w
  | D :: Ds => World.shut (w.putObj D (.deferred none)) Ds

theorem bodyN_ret {P : Program} {fn : Func} {R : Ending → World → Prop} {a : Act} {w : World} {v : Value} (Ds : List Nat) (hd : a.defers = Ds.map fun D => { target := .collected D, args := #[] })
    (hD : ∀ D ∈ Ds, w.heap[D]? = some (.deferred (some []))) (hn : Ds.Nodup) (hr : (results fn a.tmps).run P (World.shut w Ds) = .ok v (World.shut w Ds)) (hR : R (.returned v) (World.shut w Ds)) :
    bodyPostN P fn R .ret a w := by
  show LeavesInM Fence.wide 0 P fn a.tmps R a.defers .returning w
  rw [hd]
  clear hd
  induction Ds generalizing w with
  | nil => exact ⟨v, hr, hR⟩
  | cons D Ds ih =>
    refine ⟨by simp, .inl ⟨D, _, rfl, run_takeDeferred (hD D (by simp)), ih ?_ (List.nodup_cons.1 hn).2 hr hR⟩⟩
    intro E hE
    have : E ≠ D := by rintro rfl; exact (List.nodup_cons.1 hn).1 hE
    rw [World.putObj_heap_other this]
    exact hD E (by simp [hE])

theorem bodyN_normal {P : Program} {fn : Func} {R : Ending → World → Prop} {a : Act} {w : World} {v : Value} (Ds : List Nat) (hd : a.defers = Ds.map fun D => { target := .collected D, args := #[] })
    (hD : ∀ D ∈ Ds, w.heap[D]? = some (.deferred (some []))) (hn : Ds.Nodup) (hr : (results fn a.tmps).run P (World.shut w Ds) = .ok v (World.shut w Ds)) (hR : R (.returned v) (World.shut w Ds)) :
    bodyPostN P fn R .normal a w := bodyN_ret Ds hd hD hn hr hR

theorem Keeps.put {S : Nat → Prop} {w w' : World} (h : Keeps S w w') (l : Nat) (o : Obj) (hs : S l ∨ w.heap.size ≤ l) : Keeps S w (w'.putObj l o) :=
  ⟨h.os, h.tape, h.output, by have := h.size; simp; omega, fun k hk hn => by
    rw [World.putObj_heap_other (by rintro rfl; rcases hs with hs | hs; exact hn hs; omega)]
    exact h.block k hk hn⟩
theorem Blk.put {w : World} {b : Nat} {cs : Array Value} {e : TypeId} (h : Blk w b cs e) {l : Nat} (hl : b ≠ l) (o : Obj) : Blk (w.putObj l o) b cs e :=
  (World.putObj_heap_other hl).trans h
theorem Blk.shut {w : World} {b : Nat} {cs : Array Value} {e : TypeId} (h : Blk w b cs e) (Ds : List Nat) (hn : b ∉ Ds) : Blk (World.shut w Ds) b cs e := by
  induction Ds generalizing w with
  | nil => exact h
  | cons D Ds ih => exact ih (h.put (by rintro rfl; exact hn (by simp)) _) fun hm => hn (by simp [hm])
/-- An object that is no cells is another block than one that holds cells. -/
theorem Blk.ne_obj {w : World} {b k : Nat} {cs : Array Value} {e : TypeId} {o : Obj} (h : Blk w b cs e) (hk : w.heap[k]? = some o) (ho : o.isCells = false) : b ≠ k := by
  rintro rfl
  unfold Blk at h
  rw [h] at hk
  cases hk
  simp [Obj.isCells] at ho
theorem Keeps.shut {S : Nat → Prop} {w w' : World} (h : Keeps S w w') (Ds : List Nat) (hs : ∀ D ∈ Ds, S D ∨ w.heap.size ≤ D) : Keeps S w (World.shut w' Ds) := by
  induction Ds generalizing w' with
  | nil => exact h
  | cons D Ds ih => exact ih (h.put _ _ (hs D (by simp))) fun E hE => hs E (by simp [hE])

end Go.Proofs.Ytejbeioiomjbpaa
