import Derived.Test.YtejbeioiomjbpaaCellDef
import Derived.BigRegion
import Derived.Deep.RegionLaw
import Derived.BigQuiet
import Derived.Test.YtejbeioiomjbpaaProg
namespace Go.Proofs.Ytejbeioiomjbpaa
open Go.RowKit

theorem infoAccess : (Try.prog.info? 54).map (fun i => (i.zero, i.size, i.bytes)) = some (some (.agg #[.int .i64 0, .int .i64 0, .int .u64 0, .int .u64 0, .bool false]), 5, 40) := by kernel_rfl
theorem infoU64 : (Try.prog.info? 39).map (fun i => (i.zero, i.size, i.bytes)) = some (some (.int .u64 0), 1, 8) := by kernel_rfl

theorem step_append_own {P : Program} {ops : Array Oper} {o : Oper} {a : Act} {w : World} {K : Act → World → Prop} {Q : Exit → Act → World → Prop} {E : Prop}
    (hg : o.guard = none) (s x : Operand) (t : TypeId) (ho : o.op = .call { callee := .builtin .append, args := #[s, x], argTypes := #[t, t] })
    (base : Nat) (e : TypeId) (i : TypeInfo) (z : Value) (size bytes : Nat) (ht : P.underlying t = some (.slice e)) (hi : P.info? e = some i) (hz : i.zero = some z)
    (hsize : i.size = size) (hby : i.bytes = bytes) (hzs : z.cells.size = size) (hsz : 0 < size)
    (v : Value) (n : Nat) (xs : List Value) (hs : a.eval s = v) (hown : w.ownsRow base e size v n xs)
    (ad : Addr) (m c : Nat) (news : List Value) (hx : a.eval x = .slice (some ad) m c) (hl : news.length = m * size) (hnews : ∀ j u, news[j]? = some u → w.cell? (ad.add j) = some u) (h1 : ∀ u ∈ news, u.oneCell' = true)
    (h63 : n + m ≤ maxLen) (hbytes : (n + m) * bytes ≤ 140737488355328) (hbase : base ≤ w.heap.size)
    (h : ∀ v' w', w'.ownsRow base e size v' (n + m) (xs ++ news) → w.grownBy w' v.ownBlock → (v' = .slice none 0 0 ↔ v = .slice none 0 0 ∧ m = 0) → K (a.put o.dst v') w') :
    if Region.wanted o (yielded ops a.tmps) = true then Oper.wp P o a w K Q else E := by
  rw [if_pos (by simp [Region.wanted, hg])]
  exact wp_append_own w s x t ho base e i z size bytes ht hi hz hsize hby hzs hsz v n xs hs hown ad m c news hx hl hnews h1 h63 hbytes hbase h

/-- Five cells from i on. -/
def set5 (cur : Array Value) (i : Nat) (x : Acc) : Array Value :=
  ((((cur.setIfInBounds i (.int .i64 x.op)).setIfInBounds (i + 1) (.int .i64 x.at_)).setIfInBounds (i + 2) (.int .u64 x.old)).setIfInBounds (i + 3) (.int .u64 x.new)).setIfInBounds (i + 4) (.bool x.did)

theorem set5_size (cur : Array Value) (i : Nat) (x : Acc) : (set5 cur i x).size = cur.size := by simp [set5]

theorem encs_set (l : List Acc) (i : Nat) (x : Acc) (h : i < l.length) (tl : List Value) :
    ((((((encs l ++ tl).set (i * 5) (.int .i64 x.op)).set (i * 5 + 1) (.int .i64 x.at_)).set (i * 5 + 2) (.int .u64 x.old)).set (i * 5 + 3) (.int .u64 x.new)).set (i * 5 + 4) (.bool x.did)) = encs (l.set i x) ++ tl := by
  induction l generalizing i with
  | nil => simp at h
  | cons y l ih =>
    cases i with
    | zero => simp [encs, Acc.enc]
    | succ i =>
      have h' : i < l.length := by simpa using h
      have e0 : (i + 1) * 5 = i * 5 + 5 := by omega
      have := ih i h'
      simp only [e0]
      simp only [encs, List.flatMap_cons, List.set_cons_succ, Acc.enc, List.cons_append, List.nil_append] at *
      rw [this]

theorem set5_take (cur : Array Value) (l : List Acc) (i : Nat) (x : Acc) (h : i < l.length) (hc : cur.toList.take (l.length * 5) = encs l) :
    (set5 cur (i * 5) x).toList.take ((l.set i x).length * 5) = encs (l.set i x) := by
  have h1 : cur.toList = encs l ++ cur.toList.drop (l.length * 5) := by rw [← hc, List.take_append_drop]
  have h2 : (set5 cur (i * 5) x).toList = encs (l.set i x) ++ cur.toList.drop (l.length * 5) := by
    rw [← encs_set l i x h]
    simp only [set5, Array.toList_setIfInBounds]
    rw [← h1]
  rw [h2, ← encs_length, List.take_left' rfl]

set_option maxHeartbeats 1000000 in
theorem note_set (p lb len cap : Nat) (many : Nat) (cur : Array Value) (x : Acc) (v2 v3 : Value) (w : World) (hp : Blk w p #[.slice (some ⟨lb, 0, none⟩) len cap, .int .u64 many, v2, v3] 69)
    (hl : Blk w lb cur 54) (hlc : len * 5 ≤ cur.size) (hne : ((many : Int) % 1024 == (len : Int)) = false) (hlt : many % 1024 < len) (hm : many < 4611686018427387904) :
    Calls Try.prog 96 #[.pointer (some ⟨p, 0, none⟩), .agg x.enc.toArray] w fun e w' => e = .returned (.tuple #[]) ∧
      Blk w' p #[.slice (some ⟨lb, 0, none⟩) len cap, .int .u64 ((many : Int) + 1), v2, v3] 69 ∧ Blk w' lb (set5 cur (many % 1024 * 5) x) 54 ∧ Keeps (fun k => k = p ∨ k = lb) w w' := by
  obtain ⟨o1, o2, o3, o4, o5⟩ := x
  have c0 := hp.cell 0
  have c1 := hp.cell 1
  have f1 := hp.frozen 1
  have hlt' := hp.lt
  have hlt2 := hl.lt
  have hpl : ¬ lb = p := fun h => hl.ne hp (by decide) h
  simp at c0 c1
  have cc : ∀ j, j < 5 → w.cell? ⟨lb, many % 1024 * 5 + j, none⟩ = some (cur[many % 1024 * 5 + j]?.getD undef) := fun j hj => by
    rw [hl.cell, Array.getElem?_eq_getElem (by omega)]; rfl
  have cc0 := cc 0 (by omega)
  have cc1 := cc 1 (by omega)
  have cc2 := cc 2 (by omega)
  have cc3 := cc 3 (by omega)
  have cc4 := cc 4 (by omega)
  have ff := fun j => hl.frozen (many % 1024 * 5 + j)
  have ff0 := ff 0
  have ff1 := ff 1
  have ff2 := ff 2
  have ff3 := ff 3
  have ff4 := ff 4
  clear cc ff
  simp only [Nat.add_zero] at cc0 ff0
  simp only [Acc.enc]
  go_enter Try.func96, Try.ntmps96
  go_wp2
  go_region
  go_wp2
  go_end0
  have hpl' : ¬ p = lb := fun h => hpl h.symm
  refine ⟨rfl, ?_, ?_, ?_⟩
  · exact (((((((hp.other hpl' _).other hpl' _).other hpl' _).other hpl' _).other hpl' _).set 1 _).alloc _).drew
  · exact (((((((hl.set _ _).set _ _).set _ _).set _ _).set _ _).other hpl _).alloc _).drew
  · exact ((((((((Keeps.refl _ w).set _ _ (.inl (.inr rfl))).set _ _ (.inl (.inr rfl))).set _ _ (.inl (.inr rfl))).set _ _ (.inl (.inr rfl))).set _ _ (.inl (.inr rfl))).set _ _ (.inl (.inl rfl))).alloc _).drew
theorem ownsRow_some {w : World} {base : Nat} {e : TypeId} {size : Nat} {a : Option Addr} {k cap n : Nat} {xs : List Value} (h : w.ownsRow base e size (.slice a k cap) n xs) (hn : 0 < n) :
    ∃ g cur, a = some ⟨g, 0, none⟩ ∧ k = n ∧ Blk w g cur e ∧ n ≤ cap ∧ cap ≤ maxLen ∧ cur.size = cap * size ∧ cur.toList.take (n * size) = xs := by
  rcases h.2 with ⟨h1, h2⟩ | ⟨g, cap', cur, h1, _, hg, h2, h3, h4, h5⟩
  · omega
  · simp at h1
    obtain ⟨rfl, rfl, rfl⟩ := h1
    exact ⟨g, cur, rfl, rfl, hg, h2, h3, h4, h5⟩

theorem note_in (p : Nat) (A : Ar) (S : List Nat) (x : Acc) (w : World) (h : IsArena w p A S) (hm : A.many + 1 < 4611686018427387904) (hin : A.many % 1024 < A.ring.length) :
    Calls Try.prog 96 #[.pointer (some ⟨p, 0, none⟩), .agg x.enc.toArray] w fun e w' => e = .returned (.tuple #[]) ∧
      ∃ S', IsArena w' p (A.noted x) S' ∧ Turn S S' w w' := by
  obtain ⟨hok, lv, cv, hb, hl, hc, rfl⟩ := h
  have hr1 := hok.ring1
  obtain ⟨a, cap, rfl, _, _⟩ := ownsRow_form hl
  obtain ⟨g, cur, rfl, _, hg, h2, h3, h4, h5⟩ := ownsRow_some hl (by omega)
  have hpg : ¬ p = g := fun h => hb.ne hg (by decide) h
  refine (note_set p g A.ring.length cap A.many cur x cv (.int .i64 A.most) w hb hg (by rw [h4]; exact Nat.mul_le_mul_right _ h2) ?_ hin hok.many1).mono ?_
  · have : A.many % 1024 ≠ A.ring.length := by omega
    simp; omega
  · rintro e w' ⟨rfl, b1, b2, k⟩
    have hcv : ∀ kk, cv.ownBlock = some kk → w'.heap[kk]? = w.heap[kk]? := fun kk hk => by
      obtain ⟨cs, hcs⟩ := ownsRow_blk hc hk
      exact k.block kk hcs.lt (by rintro (rfl | rfl); exact hb.ne hcs (by decide) rfl; exact hg.ne hcs (by decide) rfl)
    refine ⟨rfl, _, ⟨⟨hok.most1, hok.most2, hok.fits, ?_, hm, hok.u64⟩, .slice (some ⟨g, 0, none⟩) A.ring.length cap, cv, b1, ?_, ownsRow_kept hc hcv, rfl⟩, k.mono ?_, fun kk hk => .inl hk⟩
    · exact putRing_length _ _ _ hr1
    · have hne : A.many % 1024 ≠ A.ring.length := by omega
      have e1 : (A.noted x).ring = A.ring.set (A.many % 1024) x := by simp [Ar.noted, putRing, hne]
      rw [e1]
      refine ⟨by rw [encs_length], .inr ⟨g, cap, set5 cur (A.many % 1024 * 5) x, by simp, Nat.zero_le _, b2, by simpa using h2, h3, by rw [set5_size]; exact h4, ?_⟩⟩
      exact set5_take cur A.ring _ x hin h5
    · rintro kk (rfl | rfl) <;> simp [Value.ownBlock]

end Go.Proofs.Ytejbeioiomjbpaa
