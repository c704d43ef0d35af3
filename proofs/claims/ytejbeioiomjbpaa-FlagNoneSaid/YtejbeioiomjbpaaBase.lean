/-
  Words on worlds that all texts of this seat use: a block known whole, what a call keeps, and footprints.
-/
import Derived.WalkKit
import Derived.WalkSpells
import Derived.WalkLawsBesides
import Derived.Lib.Hide
import Derived.ScopeJumps
import Derived.WalkMore
namespace Go.Proofs.Ytejbeioiomjbpaa
open Go.RowKit

/-- Block b holds just these cells. -/
def Blk (w : World) (b : Nat) (cs : Array Value) (e : TypeId) : Prop := w.heap[b]? = some (.cells cs e (0, 0))

theorem Blk.lt {w : World} {b : Nat} {cs : Array Value} {e : TypeId} (h : Blk w b cs e) : b < w.heap.size := lt_of_block h
theorem Blk.cell {w : World} {b : Nat} {cs : Array Value} {e : TypeId} (h : Blk w b cs e) (i : Nat) : w.cell? ⟨b, i, none⟩ = cs[i]? := cell_of_row w b i cs e _ h
theorem Blk.frozen {w : World} {b : Nat} {cs : Array Value} {e : TypeId} (h : Blk w b cs e) (i : Nat) : w.frozen? ⟨b, i, none⟩ = false := frozen_of_row w b i cs e h
theorem Blk.alloc {w : World} {b : Nat} {cs : Array Value} {e : TypeId} (h : Blk w b cs e) (o : Obj) : Blk (w.alloc o) b cs e :=
  (Below.heap_alloc w o b h.lt).trans h
theorem Blk.new (w : World) (cs : Array Value) (e : TypeId) : Blk (w.alloc (.cells cs e)) w.heap.size cs e := heap_alloc_new w _
theorem Blk.drew {w : World} {b : Nat} {cs : Array Value} {e : TypeId} (h : Blk w b cs e) : Blk w.drew b cs e := h
theorem Blk.drewN {w : World} {b : Nat} {cs : Array Value} {e : TypeId} (h : Blk w b cs e) (n : Nat) : Blk (w.drewN n) b cs e := h
theorem Blk.set {w : World} {b : Nat} {cs : Array Value} {e : TypeId} (h : Blk w b cs e) (i : Nat) (v : Value) : Blk (w.setCell ⟨b, i, none⟩ v) b (cs.setIfInBounds i v) e :=
  heap_setCell_same w b i cs e v h
theorem Blk.other {w : World} {b : Nat} {cs : Array Value} {e : TypeId} (h : Blk w b cs e) {a : Addr} (ha : b ≠ a.block) (v : Value) : Blk (w.setCell a v) b cs e :=
  (heap_setCell_other w a b v ha).trans h
/-- Two blocks of two element types are two. -/
theorem Blk.ne {w : World} {b b' : Nat} {cs cs' : Array Value} {e e' : TypeId} (h : Blk w b cs e) (h' : Blk w b' cs' e') (hne : e ≠ e') : b ≠ b' := by
  intro hb
  subst hb
  unfold Blk at h h'
  rw [h] at h'
  simp at h'
  exact hne h'.2

/-- But for the blocks of S, the world w' is as w was; it may have more. -/
structure Keeps (S : Nat → Prop) (w w' : World) : Prop where
  os : w'.os = w.os
  tape : w'.tape = w.tape
  output : w'.output = w.output
  size : w.heap.size ≤ w'.heap.size
  block : ∀ k, k < w.heap.size → ¬ S k → w'.heap[k]? = w.heap[k]?

theorem Keeps.refl (S : Nat → Prop) (w : World) : Keeps S w w := ⟨rfl, rfl, rfl, Nat.le_refl _, fun _ _ _ => rfl⟩
theorem Keeps.mono {S T : Nat → Prop} {w w' : World} (h : Keeps S w w') (hST : ∀ k, S k → T k) : Keeps T w w' :=
  ⟨h.os, h.tape, h.output, h.size, fun k hk hn => h.block k hk (fun hs => hn (hST k hs))⟩
theorem Keeps.blk {S : Nat → Prop} {w w' : World} (h : Keeps S w w') {b : Nat} {cs : Array Value} {e : TypeId} (hb : Blk w b cs e) (hn : ¬ S b) : Blk w' b cs e :=
  (h.block b hb.lt hn).trans hb
theorem Keeps.alloc {S : Nat → Prop} {w w' : World} (h : Keeps S w w') (o : Obj) : Keeps S w (w'.alloc o) :=
  ⟨h.os, h.tape, h.output, by have := h.size; simp; omega, fun k hk hn => by
    have := h.size
    rw [Below.heap_alloc w' o k (by omega)]; exact h.block k hk hn⟩
theorem Keeps.drew {S : Nat → Prop} {w w' : World} (h : Keeps S w w') : Keeps S w w'.drew := ⟨h.os, h.tape, h.output, h.size, h.block⟩
theorem Keeps.drewN {S : Nat → Prop} {w w' : World} (h : Keeps S w w') (n : Nat) : Keeps S w (w'.drewN n) := ⟨h.os, h.tape, h.output, h.size, h.block⟩
theorem Keeps.set {S : Nat → Prop} {w w' : World} (h : Keeps S w w') (a : Addr) (v : Value) (hs : S a.block ∨ w.heap.size ≤ a.block) : Keeps S w (w'.setCell a v) :=
  ⟨h.os, h.tape, h.output, by have := h.size; simp; omega, fun k hk hn => by
    rw [heap_setCell_other w' a k v (by rintro rfl; rcases hs with hs | hs; exact hn hs; omega)]
    exact h.block k hk hn⟩
theorem Keeps.grown {S : Nat → Prop} {w w' w'' : World} {row : Option Nat} (h : Keeps S w w') (hg : w'.grownBy w'' row) (hr : ∀ k, row = some k → S k ∨ w.heap.size ≤ k) : Keeps S w w'' :=
  ⟨hg.os.trans h.os, hg.tape.trans h.tape, hg.output.trans h.output, Nat.le_trans h.size hg.size, fun k hk hn => by
    have := h.size
    rw [hg.block k (by omega) (by intro e; rcases hr k e.symm with h1 | h1; exact hn h1; omega)]
    exact h.block k hk hn⟩
/-- Two steps: what the second may turn is what the first might, or new. -/
theorem Keeps.trans {S T : Nat → Prop} {a b c : World} (h : Keeps S a b) (k : Keeps T b c) (hT : ∀ i, T i → S i ∨ a.heap.size ≤ i) : Keeps S a c :=
  ⟨k.os.trans h.os, k.tape.trans h.tape, k.output.trans h.output, Nat.le_trans h.size k.size, fun i hi hn => by
    have := h.size
    rw [k.block i (by omega) (by intro ht; rcases hT i ht with h1 | h1; exact hn h1; omega)]
    exact h.block i hi hn⟩
theorem Keeps.below {S : Nat → Prop} {w w' : World} (h : Keeps S w w') {B : Nat} (hB : B ≤ w.heap.size) (hS : ∀ k, S k → B ≤ k) : Below B w w' :=
  ⟨h.os, h.tape, h.output, h.size, fun k hk => h.block k (by omega) (fun hs => by have := hS k hs; omega)⟩
theorem Keeps.of_below {w w' : World} (h : Below w.heap.size w w') : Keeps (fun _ => False) w w' :=
  ⟨h.os, h.tape, h.output, h.size, fun k hk _ => h.block k hk⟩
def Nothing : Nat → Prop := fun _ => False
theorem Keeps.nothing {S : Nat → Prop} {w w' : World} (h : Keeps Nothing w w') : Keeps S w w' := h.mono fun _ hk => hk.elim
theorem Keeps.then {S : Nat → Prop} {a b c : World} (h : Keeps S a b) (k : Keeps Nothing b c) : Keeps S a c := h.trans k fun _ hk => hk.elim

/-- What turns lies in S; what is owned behind it is S', which is S or new. -/
def Turn (S S' : List Nat) (w w' : World) : Prop := Keeps (· ∈ S) w w' ∧ ∀ k ∈ S', k ∈ S ∨ w.heap.size ≤ k
theorem Turn.refl (S : List Nat) (w : World) : Turn S S w w := ⟨Keeps.refl _ _, fun _ h => .inl h⟩
theorem Turn.trans {S T U : List Nat} {a b c : World} (h : Turn S T a b) (k : Turn T U b c) : Turn S U a c :=
  ⟨h.1.trans k.1 h.2, fun i hi => by
    rcases k.2 i hi with h1 | h1
    · exact h.2 i h1
    · have := h.1.size; exact .inr (by omega)⟩
theorem Turn.keeps {S T : List Nat} {a b : World} (h : Turn S T a b) : Keeps (· ∈ S) a b := h.1
theorem Turn.from {S T : List Nat} {a b c : World} (h : Keeps Nothing a b) (k : Turn S T b c) : Turn S T a c :=
  ⟨(h.nothing (S := (· ∈ S))).trans k.1 (fun _ hi => .inl hi), fun i hi => by
    rcases k.2 i hi with h1 | h1
    · exact .inl h1
    · have := h.size; exact .inr (by omega)⟩
theorem Turn.then {S T : List Nat} {a b c : World} (h : Turn S T a b) (k : Keeps Nothing b c) : Turn S T a c := ⟨h.1.then k, h.2⟩

/-- A scope out of which the run may jump on, once, to one label. -/
theorem wp_scope_fwd {P : Program} {Q : Exit → Act → World → Prop} {a : Act} {w : World} {c rest : Code} (l : Nat) (hf : findLabel c l = some rest)
    (h : c.wp P (Exit.jump l (fun a' w' => rest.wp P (Exit.noGoto Q) a' w') Q) a w) : (Code.scope c).wp P Q a w :=
  wp_scope_jumps l (fun a' w' => rest.wp P (Exit.noGoto Q) a' w') (fun _ _ => 0) hf h fun a' w' hJ =>
    wp_mono hJ fun e a w hq => by cases e <;> first | exact hq | exact hq.elim
theorem jump_goto {l : Nat} {J : Act → World → Prop} {Q : Exit → Act → World → Prop} {a : Act} {w : World} (h : J a w) : Exit.jump l J Q (.goto l) a w := ⟨rfl, h⟩
theorem jump_ret {l : Nat} {J : Act → World → Prop} {Q : Exit → Act → World → Prop} {a : Act} {w : World} (h : Q .ret a w) : Exit.jump l J Q .ret a w := h
theorem jump_normal {l : Nat} {J : Act → World → Prop} {Q : Exit → Act → World → Prop} {a : Act} {w : World} (h : Q .normal a w) : Exit.jump l J Q .normal a w := h

end Go.Proofs.Ytejbeioiomjbpaa
