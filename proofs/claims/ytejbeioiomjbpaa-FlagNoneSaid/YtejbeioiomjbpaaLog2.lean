/-
  Layer 1: Log.
-/
import Derived.Test.YtejbeioiomjbpaaLog1
namespace Go.Proofs.Ytejbeioiomjbpaa
open Go.RowKit Go.Shelf

def ringOf (X : Option Ar) : List Acc := match X with | none => [] | some A => A.ring

set_option maxRecDepth 100000 in
set_option maxHeartbeats 1000000 in
theorem Log_any (v : Value) (X : Option Ar) (S : List Nat) (w : World) (h : Mem w v X S) (hm : ∀ A, X = some A → A.many ≤ 1024) :
    Calls Try.prog 27 #[v] w fun e w' => ∃ bl bf u, e = .returned (.func (.func 65) #[] #[.pointer (some ⟨bl, 0, none⟩), .pointer (some ⟨bf, 0, none⟩)]) ∧
      LogAt w' bl bf u 0 (ringOf X) ∧ (∀ k ∈ logBlocks bl bf u, w.heap.size ≤ k) ∧ Keeps Nothing w w' := by
  have hkk : Keeps Nothing w ((w.alloc (.cells #[.int .u64 0] 39)).alloc (.cells #[.slice none 0 0] 57)) := ((Keeps.refl _ _).alloc _).alloc _
  have hb1 : Blk ((w.alloc (.cells #[.int .u64 0] 39)).alloc (.cells #[.slice none 0 0] 57)) w.heap.size #[.int .u64 0] 39 := (Blk.new _ _ _).alloc _
  have hb2 : Blk ((w.alloc (.cells #[.int .u64 0] 39)).alloc (.cells #[.slice none 0 0] 57)) (w.heap.size + 1) #[.slice none 0 0] 57 := Blk.new' _ _ (by simp)
  cases X with
  | none =>
    have hn := h.1.keep hkk
    go_enter Try.func27, Try.ntmps27
    go_wp2_with (go_at_call 55; refine (none_no _ _ hn).mono ?_; rintro e w1 ⟨rfl, rfl⟩)
    go_ret
    exact ⟨_, _, .slice none 0 0, rfl, ⟨hb2, hb1, World.ownsRow_nil _ _ _ _⟩, by simp [logBlocks, Value.ownBlock], hkk⟩
  | some A =>
    obtain ⟨p, rfl, h⟩ := h
    have hp : p < w.heap.size := h.lt p (by obtain ⟨_, lv, cv, _, _, _, rfl⟩ := h; simp)
    have hn := h.frame hkk fun _ _ => id
    have hfew := hm A rfl
    go_enter Try.func27, Try.ntmps27
    go_wp2_with first
      | (go_at_call 55; refine (none_ar hn).mono ?_; rintro e w1 ⟨rfl, rfl⟩)
      | (go_at_call 64; refine (noted_few p A S _ hn hfew).mono ?_; rintro e w1 ⟨u, rfl, ho, hk⟩; obtain ⟨ua, uc, rfl, _, _⟩ := ownsRow_form ho; have hc1 := hk.blk hb1 id; have hc2 := hk.blk hb2 id; have x1 := hc1.cell 0; have x2 := hc2.cell 0; have y1 := hc1.frozen 0; have y2 := hc2.frozen 0; simp at x1 x2; have HO := Lib.hid ho; have HK := Lib.hid hk; have H1 := Lib.hid hc1; have H2 := Lib.hid hc2; clear ho hk hc1 hc2)
    go_ret
    have ho := HO.out
    have hk := hkk.then HK.out
    have b1 := H1.out
    have b2 := H2.out
    have hne : ∀ k, (Value.slice ua A.ring.length uc).ownBlock = some k → w.heap.size + 2 ≤ k := by
      intro k hk'
      rcases ho.2 with ⟨h1, _⟩ | ⟨g, cap, cur, h1, hg, _⟩
      · rw [h1] at hk'; cases hk'
      · rw [h1] at hk'
        simp [Value.ownBlock] at hk'
        simp at hg
        omega
    have k1 : Blk ((w1.setCell ⟨w.heap.size, 0, none⟩ (.int .u64 0)).setCell ⟨w.heap.size + 1, 0, none⟩ (.slice ua A.ring.length uc)) w.heap.size #[.int .u64 0] 39 := (b1.set 0 (.int .u64 0)).other (by simp) _
    have k2 : Blk ((w1.setCell ⟨w.heap.size, 0, none⟩ (.int .u64 0)).setCell ⟨w.heap.size + 1, 0, none⟩ (.slice ua A.ring.length uc)) (w.heap.size + 1) #[.slice ua A.ring.length uc] 57 := (b2.other (by simp) _).set 0 _
    refine ⟨_, _, _, rfl, ⟨k2, k1, ownsRow_kept (ownsRow_base ho (Nat.zero_le _)) fun k e => ?_⟩, ?_, (hk.set _ _ (.inr (Nat.le_refl _))).set _ _ (.inr (Nat.le_succ _))⟩
    · have := hne k e
      rw [heap_setCell_other _ _ k _ (by simp; omega), heap_setCell_other _ _ k _ (by simp; omega)]
    · intro k hk'
      simp only [logBlocks, List.mem_cons, Option.mem_toList] at hk'
      rcases hk' with rfl | rfl | hk'
      · omega
      · omega
      · have := hne k hk'; omega

end Go.Proofs.Ytejbeioiomjbpaa
