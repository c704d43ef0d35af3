import Derived.Test.YtejbeioiomjbpaaCellNote
import Derived.Test.YtejbeioiomjbpaaMixC
import Derived.Maps.AppendAt
namespace Go.Proofs.Ytejbeioiomjbpaa
open Go.RowKit

theorem add_zero_at (b j : Nat) : (⟨b, 0, none⟩ : Addr).add j = ⟨b, j, none⟩ := by unfold Addr.add; split <;> simp_all

theorem acc_cells (w : World) (x : Acc) (e : TypeId) : ∀ j u, x.enc[j]? = some u → (w.alloc (.cells x.enc.toArray e)).cell? ((⟨w.heap.size, 0, none⟩ : Addr).add j) = some u := by
  intro j u h
  rw [add_zero_at, (Blk.new w x.enc.toArray e).cell]
  simpa using h

theorem acc_one (x : Acc) : ∀ u ∈ x.enc, u.oneCell' = true := by
  intro u hu
  simp only [Acc.enc, List.mem_cons, List.not_mem_nil, or_false] at hu
  rcases hu with rfl | rfl | rfl | rfl | rfl <;> rfl

set_option maxHeartbeats 1000000 in
theorem note_app (p : Nat) (many : Nat) (l : List Acc) (a : Option Addr) (cap : Nat) (x : Acc) (v2 v3 : Value) (w : World) (hp : Blk w p #[.slice a l.length cap, .int .u64 many, v2, v3] 69)
    (hl : w.ownsRow 0 54 5 (.slice a l.length cap) l.length (encs l)) (hll : l.length = many) (hm : many < 1024) :
    Calls Try.prog 96 #[.pointer (some ⟨p, 0, none⟩), .agg x.enc.toArray] w fun e w' => e = .returned (.tuple #[]) ∧
      ∃ v, Blk w' p #[v, .int .u64 ((many : Int) + 1), v2, v3] 69 ∧ w'.ownsRow 0 54 5 v (l.length + 1) (encs (l ++ [x])) ∧ Keeps (fun k => k = p ∨ (Value.slice a l.length cap).ownBlock = some k) w w' ∧
        ∀ k, v.ownBlock = some k → (Value.slice a l.length cap).ownBlock = some k ∨ w.heap.size ≤ k := by
  obtain ⟨o1, o2, o3, o4, o5⟩ := x
  have c0 := hp.cell 0
  have c1 := hp.cell 1
  have f0 := hp.frozen 0
  have f1 := hp.frozen 1
  have hlt' := hp.lt
  simp at c0 c1
  have he : ((many : Int) % 1024 == (l.length : Int)) = true := by simp; omega
  obtain ⟨i0, hi, hz0, hz1, hz2⟩ := info_parts infoAccess
  simp only [Acc.enc]
  have hpa : ∀ k, (Value.slice a l.length cap).ownBlock = some k → ¬ p = k := fun k hk h => by
    obtain ⟨cs, hcs⟩ := ownsRow_blk hl hk
    exact hp.ne hcs (by decide) h
  have HL := Lib.hid hl
  have HP := Lib.hid hp
  have HLL := Lib.hid hll
  have HPA := Lib.hid hpa
  clear hl hp hll hpa
  go_enter Try.func96, Try.ntmps96
  go_wp2
  have C1 := Lib.hid (fun w' : World => acc_cells w' ⟨o1, o2, o3, o4, o5⟩ 54)
  have C2 := Lib.hid (acc_one ⟨o1, o2, o3, o4, o5⟩)
  refine wp_mix (by kernel_rfl) (by kernel_rfl) (by kernel_rfl) ?_
  go_wp2_with (at_builtin; refine wpList_append_own_at _ rfl (.tmp 22) (.tmp 24) 57 rfl 0 54 i0 (.agg #[.int .i64 0, .int .i64 0, .int .u64 0, .int .u64 0, .bool false]) 5 40 Try.underlying57 hi hz0 hz1 hz2 rfl (by decide) _ _ _ rfl ((HL.out.alloc _).alloc _).drew ⟨w.heap.size + 1, 0, none⟩ 1 1 [.int .i64 o1, .int .i64 o2, .int .u64 o3, .int .u64 o4, .bool o5] rfl rfl (by simpa [Acc.enc] using C1.out (w.alloc _)) C2.out (by have := HLL.out; unfold maxLen; omega) (by have := HLL.out; omega) (Nat.zero_le _) ?_)
  intro v' w1 hown hgrow _ hat
  obtain ⟨a', cap', rfl, _, _⟩ := ownsRow_form hown
  have hb1 : Blk w1 p _ _ := (hgrow.block p (by simp; omega) (fun h => HPA.out _ h.symm rfl)).trans ((HP.out.alloc _).alloc _)
  have c0' := hb1.cell 0
  have f0' := hb1.frozen 0
  simp at c0'
  have hbx0 : Blk w1 w.heap.size #[.int .i64 o1, .int .i64 o2, .int .u64 o3, .int .u64 o4, .bool o5] 54 :=
    (hgrow.block w.heap.size (by simp; omega) (fun h => by obtain ⟨cs, hcs⟩ := ownsRow_blk HL.out h.symm; have := hcs.lt; omega)).trans ((Blk.new w _ _).alloc _)
  obtain ⟨g, cur, rfl, _, hg, hcap, hcm, hcs, htk⟩ := ownsRow_some hown (Nat.succ_pos _)
  have hgp : ¬ p = g := hb1.ne hg (by decide)
  have hgx : ¬ g = w.heap.size := by
    intro he
    rcases hat with h | h
    · obtain ⟨cs, hcs⟩ := ownsRow_blk HL.out (k := g) h.symm; have := hcs.lt; omega
    · have h2 : g = w.heap.size + 1 + 1 := by simpa using Option.some.inj h
      omega
  have hplt : p < w1.heap.size := hb1.lt
  have hk1 : Keeps (fun k => k = p ∨ (Value.slice a l.length cap).ownBlock = some k) w w1 := (((Keeps.refl _ w).alloc _).alloc _).drew.grown hgrow (fun k hk => .inl (.inr hk))
  have hat' : ∀ k, (Value.slice (some ⟨g, 0, none⟩) (l.length + 1) cap').ownBlock = some k → (Value.slice a l.length cap).ownBlock = some k ∨ w.heap.size ≤ k := fun k hk => by
    rcases hat with h | h
    · exact .inl (h.symm.trans hk)
    · rw [h] at hk
      have h2 : w.heap.size + 1 + 1 = k := by simpa using Option.some.inj hk
      exact .inr (by omega)
  clear hgrow hat
  have HK := Lib.hid hk1
  have HAT := Lib.hid hat'
  clear hk1 hat'
  go_wp2
  obtain ⟨w2, hw2⟩ : ∃ w2, w1.setCell ⟨p, 0, none⟩ (.slice (some ⟨g, 0, none⟩) (l.length + 1) cap') = w2 := ⟨_, rfl⟩
  rw [hw2]
  have hk2 : Keeps (fun k => k = p ∨ (Value.slice a l.length cap).ownBlock = some k) w w2 := hw2 ▸ HK.out.set _ _ (.inl (.inl rfl))
  have hp2 : Blk w2 p #[.slice (some ⟨g, 0, none⟩) (l.length + 1) cap', .int .u64 many, v2, v3] 69 := hw2 ▸ hb1.set 0 _
  have hg2 : Blk w2 g cur 54 := hw2 ▸ hg.other (fun h => hgp h.symm) _
  have hbx2 : Blk w2 w.heap.size #[.int .i64 o1, .int .i64 o2, .int .u64 o3, .int .u64 o4, .bool o5] 54 := hw2 ▸ hbx0.other (fun h => by simp at h; omega) _
  clear hw2 hbx0 hg hb1 c0 c1 f0 f1 c0' f0'
  have d0 := hp2.cell 0
  have d1 := hp2.cell 1
  have e1 := hp2.frozen 1
  have b0 := hbx2.cell 0
  have b1 := hbx2.cell 1
  have b2 := hbx2.cell 2
  have b3 := hbx2.cell 3
  have b4 := hbx2.cell 4
  simp at d0 d1 b0 b1 b2 b3 b4
  have hll := HLL.out
  have cc : ∀ j, j < 5 → w2.cell? ⟨g, many % 1024 * 5 + j, none⟩ = some (cur[many % 1024 * 5 + j]?.getD undef) := fun j hj => by
    rw [hg2.cell, Array.getElem?_eq_getElem (by omega)]; rfl
  have cc0 := cc 0 (by omega)
  have cc1 := cc 1 (by omega)
  have cc2 := cc 2 (by omega)
  have cc3 := cc 3 (by omega)
  have cc4 := cc 4 (by omega)
  have ff := fun j => hg2.frozen (many % 1024 * 5 + j)
  have ff0 := ff 0
  have ff1 := ff 1
  have ff2 := ff 2
  have ff3 := ff 3
  have ff4 := ff 4
  clear cc ff
  simp only [Nat.add_zero] at cc0 ff0
  have hlt : many % 1024 < l.length + 1 := by omega
  have hgx' : ¬ w.heap.size = g := fun h => hgx h.symm
  have hxp : ¬ w.heap.size = p := by omega
  have hgp' : ¬ g = p := fun h => hgp h.symm
  clear hll
  have HP2 := Lib.hid hp2
  have HG2 := Lib.hid hg2
  clear hp2 hg2 hbx2 he
  refine wp_mix (by kernel_rfl) (by kernel_rfl) (by kernel_rfl) ?_
  go_wp2
  go_end0
  refine ⟨rfl, .slice (some ⟨g, 0, none⟩) (l.length + 1) cap', ?_, ?_, ?_, HAT.out⟩
  · exact ((((((HP2.out.other hgp _).other hgp _).other hgp _).other hgp _).other hgp _).set 1 _).drew
  · have hset : Blk _ g _ 54 := ((((((HG2.out.set (many % 1024 * 5) (.int .i64 o1)).set (many % 1024 * 5 + 1) (.int .i64 o2)).set (many % 1024 * 5 + 2) (.int .u64 o3)).set (many % 1024 * 5 + 3) (.int .u64 o4)).set (many % 1024 * 5 + 4) (.bool o5)).other hgp' (a := ⟨p, 1, none⟩) (.int .u64 ((many : Int) + 1))).drew
    have hlen : (l ++ [(⟨o1, o2, o3, o4, o5⟩ : Acc)]).length = l.length + 1 := by simp
    have hm' : many % 1024 = l.length := by have := HLL.out; omega
    refine ⟨by rw [encs_length, hlen], .inr ⟨g, cap', _, rfl, Nat.zero_le _, hset, hcap, hcm, by simpa using hcs, ?_⟩⟩
    have h5 := set5_take cur (l ++ [(⟨o1, o2, o3, o4, o5⟩ : Acc)]) l.length ⟨o1, o2, o3, o4, o5⟩ (by simp) (by rw [hlen, htk, encs_snoc]; rfl)
    rw [hm']
    simpa [set5] using h5
  · have hs : (fun k => k = p ∨ (Value.slice a l.length cap).ownBlock = some k) g ∨ w.heap.size ≤ g := (HAT.out g rfl).imp .inr id
    exact ((((((hk2.set ⟨g, many % 1024 * 5, none⟩ _ hs).set ⟨g, _, none⟩ _ hs).set ⟨g, _, none⟩ _ hs).set ⟨g, _, none⟩ _ hs).set ⟨g, _, none⟩ _ hs).set ⟨p, 1, none⟩ _ (.inl (.inl rfl))).drew

theorem note_ok (p : Nat) (A : Ar) (S : List Nat) (x : Acc) (w : World) (h : IsArena w p A S) (hm : A.many + 1 < 4611686018427387904) :
    Calls Try.prog 96 #[.pointer (some ⟨p, 0, none⟩), .agg x.enc.toArray] w fun e w' => e = .returned (.tuple #[]) ∧
      ∃ S', IsArena w' p (A.noted x) S' ∧ Turn S S' w w' := by
  have hr1 := h.1.ring1
  by_cases hin : A.many % 1024 < A.ring.length
  · exact note_in p A S x w h hm hin
  · obtain ⟨hok, lv, cv, hb, hl, hc, rfl⟩ := h
    obtain ⟨a, cap, rfl, _, _⟩ := ownsRow_form hl
    have hlm : A.ring.length = A.many := by omega
    refine (note_app p A.many A.ring a cap x cv (.int .i64 A.most) w hb hl hlm (by omega)).mono ?_
    rintro e w' ⟨rfl, v, b1, b2, k, hat⟩
    have hcv : ∀ kk, cv.ownBlock = some kk → w'.heap[kk]? = w.heap[kk]? := fun kk hk => by
      obtain ⟨cs, hcs⟩ := ownsRow_blk hc hk
      refine k.block kk hcs.lt ?_
      rintro (rfl | h)
      · exact hb.ne hcs (by decide) rfl
      · obtain ⟨cs', hcs'⟩ := ownsRow_blk hl h; exact hcs'.ne hcs (by decide) rfl
    have e1 : (A.noted x).ring = A.ring ++ [x] := by
      have : A.many % 1024 = A.ring.length := by omega
      simp [Ar.noted, putRing, this]
    refine ⟨rfl, _, ⟨⟨hok.most1, hok.most2, hok.fits, putRing_length _ _ _ hr1, hm, hok.u64⟩, v, cv, b1, ?_, ownsRow_kept hc hcv, rfl⟩, k.mono ?_, ?_⟩
    · rw [e1]; simpa using b2
    · rintro kk (rfl | hk)
      · simp
      · simp only [List.mem_cons, List.mem_append, Option.mem_toList]; exact .inr (.inl hk)
    · intro kk hkk
      simp only [List.mem_cons, List.mem_append, Option.mem_toList] at hkk ⊢
      rcases hkk with rfl | hk | hk
      · exact .inl (.inl rfl)
      · rcases hat kk hk with h | h
        · exact .inl (.inr (.inl h))
        · exact .inr h
      · exact .inl (.inr (.inr hk))

end Go.Proofs.Ytejbeioiomjbpaa
