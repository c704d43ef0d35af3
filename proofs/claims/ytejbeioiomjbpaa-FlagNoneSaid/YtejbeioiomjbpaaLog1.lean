/-
  Layer 1: the log, where no more accesses than are remembered were made.
-/
import Derived.Test.YtejbeioiomjbpaaCellAny
import Derived.Test.YtejbeioiomjbpaaStay
namespace Go.Proofs.Ytejbeioiomjbpaa
open Go.RowKit Go.Shelf
attribute [local go_sem] Oper.semAt_some

theorem encs_get : ∀ {l : List Acc} {i j : Nat} {x : Acc} {u : Value}, l[i]? = some x → x.enc[j]? = some u → (encs l)[i * 5 + j]? = some u
  | [], i, j, x, u, hi, _ => by simp at hi
  | y :: l, 0, j, x, u, hi, hj => by
    simp at hi; subst hi
    have hlt : j < y.enc.length := (List.getElem?_eq_some_iff.1 hj).1
    simp only [encs, List.flatMap_cons]
    rw [List.getElem?_append_left (by omega)]
    simpa using hj
  | y :: l, i + 1, j, x, u, hi, hj => by
    have ih := encs_get (l := l) (i := i) (j := j) (x := x) (u := u) (by simpa using hi) hj
    simp only [encs, List.flatMap_cons] at ih ⊢
    rw [List.getElem?_append_right (by simp; omega)]
    rw [show (i + 1) * 5 + j - y.enc.length = i * 5 + j by simp; omega]
    exact ih

/-- A cell of a row of accesses. -/
theorem rowA_cell {w : World} {b g cap : Nat} {l : List Acc} (h : w.ownsRow b 54 5 (.slice (some ⟨g, 0, none⟩) l.length cap) l.length (encs l)) {i j : Nat} {x : Acc} {u : Value} (hi : l[i]? = some x) (hj : x.enc[j]? = some u) :
    w.cell? ⟨g, i * 5 + j, none⟩ = some u := by
  have h1 := encs_get hi hj
  have hlt := (List.getElem?_eq_some_iff.1 h1).1
  rw [encs_length] at hlt
  rw [h.cellAt _ hlt, h1]

/-- The log as it was told: the closure's two boxes, and the list. -/
structure LogAt (W : World) (bl bf : Nat) (v : Value) (fr : Int) (l : List Acc) : Prop where
  list : Blk W bl #[v] 57
  first : Blk W bf #[.int .u64 fr] 39
  row : W.ownsRow 0 54 5 v l.length (encs l)

def logBlocks (bl bf : Nat) (v : Value) : List Nat := bl :: bf :: v.ownBlock.toList

theorem LogAt.keep {W W' : World} {bl bf : Nat} {v : Value} {fr : Int} {l : List Acc} (h : LogAt W bl bf v fr l) (hk : ∀ k ∈ logBlocks bl bf v, W'.heap[k]? = W.heap[k]?) : LogAt W' bl bf v fr l :=
  ⟨(hk bl (by simp [logBlocks])).trans h.list, (hk bf (by simp [logBlocks])).trans h.first, ownsRow_kept h.row fun k e => hk k (by simp [logBlocks, e])⟩

set_option maxRecDepth 100000 in
set_option maxHeartbeats 1000000 in
theorem Log1_seq {σ : Type} {M : World → σ → List Nat → Prop} (hM : Framed M) (x0 : σ) (bl bf : Nat) (v : Value) (fr : Int) (l : List Acc) (hlen : l.length ≤ 1024) (hfr : 0 ≤ fr ∧ fr < 4611686018427387904) :
    Seq Try.prog 65 #[.pointer (some ⟨bl, 0, none⟩), .pointer (some ⟨bf, 0, none⟩)] M (fun i (x : Acc) => #[.int .u64 (fr + i), .agg x.enc.toArray])
      (fun W => LogAt W bl bf v fr l) x0 l x0 := by
  intro lr J Jx hJ hJx hbox hY S W h
  have hL := hbox h
  obtain ⟨a, cap, rfl, _, _⟩ := ownsRow_form hL.row
  have c1 := hL.list.cell 0
  simp at c1
  clear hL
  refine (callsIn_wide (n := 3)).1 ?_
  refine callsIn_of_wp Try.func65 rfl trivial ?_ rfl
  simp only [Try.ntmps65, List.size_toArray, List.length_cons, List.length_nil, Nat.reduceAdd, Nat.reduceSub, Array.replicate_succ, Array.replicate_zero, List.push_toArray, List.append_toArray, List.nil_append, List.cons_append]
  gi_wp2
  refine wpIn_wide.2 ?_
  refine wp_scope_fwd 0 rfl ?_
  refine (wpIn_wide (n := 3)).1 ?_
  gi_wp2
  refine wpIn_label ?_
  gi_wp2
  gi_loopw [8] (fun p wr => ∃ (k : Nat) (S U : List Nat), p = .int .i64 k ∧ k ≤ l.length ∧ J x0 S U (l.take k) wr) (fun p _ => (l.length - intOf p).toNat)
  case atStart => exact ⟨0, S, [], rfl, by omega, by simpa using h⟩
  case round =>
    obtain ⟨k, S1, U1, rfl, hk, hj⟩ := hrel
    have hL := hbox hj
    by_cases hlt : k < l.length
    · obtain ⟨x, hx⟩ : ∃ x, l[k]? = some x := ⟨_, List.getElem?_eq_getElem hlt⟩
      obtain ⟨g, rfl⟩ : ∃ g, a = some ⟨g, 0, none⟩ := by
        rcases hL.row.2 with ⟨hn, h0⟩ | ⟨g, cap', cur, hv, _⟩
        · omega
        · cases hv; exact ⟨g, rfl⟩
      have d0 : wr.cell? ⟨g, k * 5, none⟩ = some (.int .i64 x.op) := rowA_cell hL.row (j := 0) hx rfl
      have d1 : wr.cell? ⟨g, k * 5 + 1, none⟩ = some (.int .i64 x.at_) := rowA_cell hL.row (j := 1) hx rfl
      have d2 : wr.cell? ⟨g, k * 5 + 2, none⟩ = some (.int .u64 x.old) := rowA_cell hL.row (j := 2) hx rfl
      have d3 : wr.cell? ⟨g, k * 5 + 3, none⟩ = some (.int .u64 x.new) := rowA_cell hL.row (j := 3) hx rfl
      have d4 : wr.cell? ⟨g, k * 5 + 4, none⟩ = some (.bool x.did) := rowA_cell hL.row (j := 4) hx rfl
      have c2 := hL.first.cell 0
      have l2 := hL.first.lt
      simp at c2
      clear hL
      have hkeep : Keeps Nothing wr (wr.alloc (.cells x.enc.toArray 54)) := (Keeps.refl _ _).alloc _
      have hj' := hJ.turn hj (hM.keep (hJ.mem hj) fun b hb => hkeep.block b (hM.lt (hJ.mem hj) b hb) id) ⟨hkeep.nothing, fun _ h => .inl h⟩
      have hap : l.take k ++ [x] = l.take (k + 1) := by rw [List.take_add_one, hx]; rfl
      have hYk := hY x (by rw [hap]; exact List.take_prefix _ _) hj'
      rw [hap, List.length_take_of_le hk] at hYk
      obtain ⟨fn, tmps, assign, body, hy, hR⟩ := hYk (3 - 1)
      simp only [Acc.enc] at hy hR
      have HJ := Lib.hid hJ
      clear hJ hj hj' hx hap
      gi_wp2
      refine hR.mono ?_
      rintro e W3 (⟨rfl, hJ3, -⟩ | ⟨rfl, hJx3, -⟩)
      · gi_wp2
        go_roundw
        case rel => exact ⟨k + 1, _, _, by simp, by omega, hJ3⟩
        case measure => simp [intOf]; omega
      · gi_wp2
        refine jump_normal ?_
        exact ⟨rfl, _, results_none rfl _ _ _, ⟨_, rfl⟩, .inr ⟨_, _, _, _, List.take_prefix _ _, hJx3⟩⟩
    · obtain rfl : k = l.length := by omega
      clear hL
      gi_wp2
      refine jump_normal ?_
      rw [List.take_length] at hj
      exact ⟨rfl, _, results_none rfl _ _ _, ⟨_, rfl⟩, .inl ⟨_, _, hj⟩⟩

set_option maxRecDepth 100000 in
set_option maxHeartbeats 1000000 in
theorem noted_few (p : Nat) (A : Ar) (S : List Nat) (w : World) (h : IsArena w p A S) (hm : A.many ≤ 1024) :
    Calls Try.prog 64 #[.pointer (some ⟨p, 0, none⟩)] w fun e w' => ∃ v, e = .returned (.tuple #[.int .u64 0, v]) ∧ w'.ownsRow w.heap.size 54 5 v A.ring.length (encs A.ring) ∧ Keeps Nothing w w' := by
  have hrl : A.ring.length ≤ 65536 := by have := h.1.ring1; omega
  obtain ⟨hok, lv, cv, hb, hl, hc, hS⟩ := h
  have C := CloneA_ok lv A.ring w hl hrl
  obtain ⟨a, cap, rfl, _, _⟩ := ownsRow_form hl
  have c0 := hb.cell 0
  have c1 := hb.cell 1
  simp at c0 c1
  have hplt := hb.lt
  obtain ⟨many, hmany⟩ : ∃ many, A.many = many := ⟨_, rfl⟩
  rw [hmany] at hm c1
  clear hok hb hl hc hS hmany
  go_enter Try.func64, Try.ntmps64
  go_wp2_with (go_at_call 88; refine C.mono ?_; rintro e w1 ⟨v, rfl, ho, hk⟩)
  go_ret2
  exact ⟨v, rfl, ho, hk⟩

end Go.Proofs.Ytejbeioiomjbpaa
