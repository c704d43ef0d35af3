/-
  The document's arena (layer 1): Do.
-/
import Derived.Test.YtejbeioiomjbpaaRef1
import Derived.Deep.RegionHeld3
namespace Go.Proofs.Ytejbeioiomjbpaa
open Go.RowKit
attribute [local go_sem] Oper.semAt_some

theorem cell_set_far (w : World) (a p : Addr) (v : Value) (h : p.block ≠ a.block) : (w.setCell a v).cell? p = w.cell? p :=
  World.cell?_of_block (heap_setCell_other w a p.block v h)

theorem ownsRow_set_far {w : World} {base : Nat} {e : TypeId} {size : Nat} {v : Value} {n : Nat} {xs : List Value} (h : w.ownsRow base e size v n xs) (a : Addr) (u : Value) (ha : v.ownBlock ≠ some a.block) : (w.setCell a u).ownsRow base e size v n xs :=
  ownsRow_kept h fun k hk => heap_setCell_other w a k u (by rintro rfl; exact ha hk)

theorem step_append_row {P : Program} {ops : Array Oper} {o : Oper} {a : Act} {w : World} {K : Act → World → Prop} {Q : Exit → Act → World → Prop} {E : Prop}
    (hg : o.guard = none) (s x : Operand) (t : TypeId) (ho : o.op = .call { callee := .builtin .append, args := #[s, x], argTypes := #[t, t] })
    (base b2 : Nat) (e : TypeId) (i : TypeInfo) (z : Value) (size bytes : Nat) (ht : P.underlying t = some (.slice e)) (hi : P.info? e = some i) (hz : i.zero = some z)
    (hsize : i.size = size) (hby : i.bytes = bytes) (hzs : z.cells.size = size) (hsz : 0 < size)
    (v : Value) (n : Nat) (xs : List Value) (hs : a.eval s = v) (hown : w.ownsRow base e size v n xs) (v2 : Value) (m : Nat) (ys : List Value) (hx : a.eval x = v2) (hsrc : w.ownsRow b2 e size v2 m ys) (h1 : ∀ u ∈ ys, u.oneCell' = true)
    (h63 : n + m ≤ maxLen) (hbytes : (n + m) * bytes ≤ 140737488355328) (hbase : base ≤ w.heap.size)
    (h : ∀ v' w', w'.ownsRow base e size v' (n + m) (xs ++ ys) → w.grownBy w' v.ownBlock → (v'.ownBlock = v.ownBlock ∨ v'.ownBlock = some w.heap.size) → K (a.put o.dst v') w') :
    if Region.wanted o (yielded ops a.tmps) = true then Oper.wp P o a w K Q else E := by
  rw [if_pos (by simp [Region.wanted, hg])]
  exact wp_append_row w s x t ho base b2 e i z size bytes ht hi hz hsize hby hzs hsz v n xs hs hown v2 m ys hx hsrc h1 h63 hbytes hbase h

/-- A new row of one. -/
theorem ownsRow_one (W : World) (e : TypeId) (sz : Nat) (cs : Array Value) (h : cs.size = sz) : (W.alloc (.cells cs e)).ownsRow 0 e sz (.slice (some ⟨W.heap.size, 0, none⟩) 1 1) 1 cs.toList :=
  ⟨by rw [Array.length_toList, h, Nat.one_mul], .inr ⟨_, 1, cs, rfl, Nat.zero_le _, heap_alloc_new W _, Nat.le_refl _, by unfold maxLen; omega, by rw [h, Nat.one_mul], List.take_of_length_le (by rw [Array.length_toList, h, Nat.one_mul]; exact Nat.le_refl _)⟩⟩

/-- What an access by the document does. -/
def fOf (op x y : Int) : Int → Int × Bool := if op = 2 then fStore x else if op = 3 then fSwap x y else if op = 4 then fAdd x else fLoad
/-- The access that is noted, if there is one. -/
def noteOf (A : Ar) (op k : Int) (f : Int → Int × Bool) : List Acc :=
  if 0 ≤ k ∧ k < A.cells.length then [⟨op, k, A.val k.toNat, (f (A.val k.toNat)).1, (f (A.val k.toNat)).2⟩] else []

set_option maxRecDepth 100000 in
set_option maxHeartbeats 1000000 in
theorem refDo_out (v : Value) (A : Ar) (L : List Acc) (op k x y : Int) (w : World) (h : RefAt w v A.cells A.most L) (hk : k < 0 ∨ A.cells.length ≤ k) :
    Calls Try.prog 67 #[v, .int .i64 op, .int .i64 k, .int .u64 x, .int .u64 y] w fun e w' => ∃ u, e = .returned (.tuple #[u, .agg #[.int .i64 0, .int .i64 0, .int .u64 0, .int .u64 0, .bool false], .int .i64 4]) ∧
      RefAt w' u A.cells A.most L ∧ Keeps Nothing w w' ∧ (∀ k ∈ refBlocks u, k ∈ refBlocks v ∨ w.heap.size ≤ k) := by
  obtain ⟨cells, most, ring, many⟩ := A
  obtain ⟨cv, lv, rfl, hc, hl⟩ := h
  dsimp only at hc hl hk ⊢
  obtain ⟨ca, cc, rfl, hcc, hcm⟩ := ownsRow_form hc
  obtain ⟨la, lc, rfl, hlc, hlm⟩ := ownsRow_form hl
  have hfin : ∀ (W' : World), Keeps Nothing w W' → RefAt W' (.agg #[.slice ca cells.length cc, .int .i64 most, .slice la L.length lc]) cells most L := fun W' hk =>
    RefAt.keep ⟨_, _, rfl, hc, hl⟩ hk
  have HF := Lib.hid hfin
  clear hfin hcc hcm hlc hlm hc hl
  by_cases h1 : k < 0
  · clear hk
    go_enter Try.func67, Try.ntmps67
    go_wp2
    exact bodyPost_ret (v := .tuple #[.agg #[.slice ca cells.length cc, .int .i64 most, .slice la L.length lc], .agg #[.int .i64 0, .int .i64 0, .int .u64 0, .int .u64 0, .bool false], .int .i64 4]) (by simp [results, Try.results67, go_sem]) rfl
      ⟨_, rfl, HF.out _ ((((Keeps.refl _ _).alloc _).alloc _).alloc _), (((Keeps.refl _ _).alloc _).alloc _).alloc _, fun k hk => .inl hk⟩
  · have h2 : (cells.length : Int) ≤ k := by omega
    clear hk
    go_enter Try.func67, Try.ntmps67
    go_wp2
    exact bodyPost_ret (v := .tuple #[.agg #[.slice ca cells.length cc, .int .i64 most, .slice la L.length lc], .agg #[.int .i64 0, .int .i64 0, .int .u64 0, .int .u64 0, .bool false], .int .i64 4]) (by simp [results, Try.results67, go_sem]) rfl
      ⟨_, rfl, HF.out _ ((((Keeps.refl _ _).alloc _).alloc _).alloc _), (((Keeps.refl _ _).alloc _).alloc _).alloc _, fun k hk => .inl hk⟩

set_option maxRecDepth 100000 in
set_option maxHeartbeats 3000000 in
theorem refDo_in (v : Value) (A : Ar) (L : List Acc) (op x y : Int) (j : Nat) (w : World) (h : RefAt w v A.cells A.most L) (hj : j < A.cells.length) (hb : A.cells.length ≤ 65536) (hL : L.length ≤ 65536) :
    Calls Try.prog 67 #[v, .int .i64 op, .int .i64 j, .int .u64 x, .int .u64 y] w fun e w' => ∃ u, e = .returned (.tuple #[u, .agg #[.int .i64 op, .int .i64 j, .int .u64 (A.val j), .int .u64 (fOf op x y (A.val j)).1, .bool (fOf op x y (A.val j)).2], .int .i64 0]) ∧
      RefAt w' u (A.cells.set j (fOf op x y (A.val j)).1) A.most (L ++ [⟨op, j, A.val j, (fOf op x y (A.val j)).1, (fOf op x y (A.val j)).2⟩]) ∧ Keeps Nothing w w' ∧ (∀ k ∈ refBlocks u, k ∈ refBlocks v ∨ w.heap.size ≤ k) := by
  obtain ⟨cells, most, ring, many⟩ := A
  obtain ⟨cv, lv, rfl, hc, hl⟩ := h
  dsimp only at hc hl hj hb ⊢
  obtain ⟨ca, cc, rfl, hcc, hcm⟩ := ownsRow_form hc
  obtain ⟨la, lc, rfl, hlc, hlm⟩ := ownsRow_form hl
  obtain ⟨g, rfl⟩ : ∃ g, ca = some ⟨g, 0, none⟩ := by
    rcases hc.2 with ⟨hn, h0⟩ | ⟨g, cap', cur, hv, _⟩
    · omega
    · cases hv; exact ⟨g, rfl⟩
  obtain ⟨i0, hi, hz0, hz1, hz2⟩ := info_parts infoU64
  obtain ⟨old, hold⟩ : ∃ old, (Ar.val ⟨cells, most, ring, many⟩ j) = old := ⟨_, rfl⟩
  have hce : (cells.map (Value.int .u64))[j]? = some (.int .u64 old) := by
    rw [← hold]; simp [Ar.val, hj]
  rw [hold]
  obtain ⟨b0, hb0⟩ : ∃ b0, w.heap.size = b0 := ⟨_, rfl⟩
  have hk2 : Keeps Nothing w (((w.alloc (.cells #[.slice (some ⟨g, 0, none⟩) cells.length cc, .int .i64 most, .slice la L.length lc] 59)).alloc (.cells #[.slice none 0 0, .int .i64 0, .slice none 0 0] 59)).alloc (.cells #[.int .i64 0, .int .i64 0, .int .u64 0, .int .u64 0, .bool false] 54)) := (((Keeps.refl _ _).alloc _).alloc _).alloc _
  have kb : Blk (((w.alloc (.cells #[.slice (some ⟨g, 0, none⟩) cells.length cc, .int .i64 most, .slice la L.length lc] 59)).alloc (.cells #[.slice none 0 0, .int .i64 0, .slice none 0 0] 59)).alloc (.cells #[.int .i64 0, .int .i64 0, .int .u64 0, .int .u64 0, .bool false] 54)) b0 #[.slice (some ⟨g, 0, none⟩) cells.length cc, .int .i64 most, .slice la L.length lc] 59 := by rw [← hb0]; exact ((Blk.new w _ _).alloc _).alloc _
  have kr : Blk (((w.alloc (.cells #[.slice (some ⟨g, 0, none⟩) cells.length cc, .int .i64 most, .slice la L.length lc] 59)).alloc (.cells #[.slice none 0 0, .int .i64 0, .slice none 0 0] 59)).alloc (.cells #[.int .i64 0, .int .i64 0, .int .u64 0, .int .u64 0, .bool false] 54)) (b0 + 1) #[.slice none 0 0, .int .i64 0, .slice none 0 0] 59 := by rw [← hb0]; exact (Blk.new' _ _ (by simp)).alloc _
  have ka : Blk (((w.alloc (.cells #[.slice (some ⟨g, 0, none⟩) cells.length cc, .int .i64 most, .slice la L.length lc] 59)).alloc (.cells #[.slice none 0 0, .int .i64 0, .slice none 0 0] 59)).alloc (.cells #[.int .i64 0, .int .i64 0, .int .u64 0, .int .u64 0, .bool false] 54)) (b0 + 1 + 1) #[.int .i64 0, .int .i64 0, .int .u64 0, .int .u64 0, .bool false] 54 := by rw [← hb0]; exact Blk.new' _ _ (by simp)
  have hsz : (((w.alloc (.cells #[.slice (some ⟨g, 0, none⟩) cells.length cc, .int .i64 most, .slice la L.length lc] 59)).alloc (.cells #[.slice none 0 0, .int .i64 0, .slice none 0 0] 59)).alloc (.cells #[.int .i64 0, .int .i64 0, .int .u64 0, .int .u64 0, .bool false] 54)).heap.size = b0 + 3 := by rw [← hb0]; simp
  have hc2 := ((hc.alloc (.cells #[.slice (some ⟨g, 0, none⟩) cells.length cc, .int .i64 most, .slice la L.length lc] 59)).alloc (.cells #[.slice none 0 0, .int .i64 0, .slice none 0 0] 59)).alloc (.cells #[.int .i64 0, .int .i64 0, .int .u64 0, .int .u64 0, .bool false] 54)
  obtain ⟨W2, hW2⟩ : ∃ W2, (((w.alloc (.cells #[.slice (some ⟨g, 0, none⟩) cells.length cc, .int .i64 most, .slice la L.length lc] 59)).alloc (.cells #[.slice none 0 0, .int .i64 0, .slice none 0 0] 59)).alloc (.cells #[.int .i64 0, .int .i64 0, .int .u64 0, .int .u64 0, .bool false] 54)) = W2 := ⟨_, rfl⟩
  rw [hW2] at hk2 kb kr ka hsz hc2
  have x0 := kb.cell 0
  have r0 : W2.cell? ⟨g, j, none⟩ = some (.int .u64 old) := by rw [hc2.cellAt j (by omega), hce]
  simp at x0
  have HL := Lib.hid hl
  have HK2 := Lib.hid hk2
  have HC2 := Lib.hid hc2
  have HKB := Lib.hid kb
  have HKR := Lib.hid kr
  have HKA := Lib.hid ka
  have hjn : ¬ ((cells.length : Nat) ≤ j) := by omega
  have hem := ownsRow_empty W2 39 1
  rw [hsz] at hem
  have HEM := Lib.hid hem
  have HCE := Lib.hid hce
  clear hk2 hc2 kb kr ka hem hc hl hcc hcm hlc hlm hce hold
  go_enter Try.func67, Try.ntmps67
  go_upto_region 1 with fail

  clear hW2
  go_upto_block 0 with fail
  go_cut [14, 15] from 18 (fun t d wx => t = .int .u64 (fOf op x y old).1 ∧ d = .bool (fOf op x y old).2 ∧ wx = W2)
  case first =>
    by_cases q2 : op = 2
    · subst q2
      go_wp2
      go_meet
      exact ⟨rfl, rfl, rfl⟩
    by_cases q3 : op = 3
    · subst q3
      by_cases hv : old = x
      · go_wp2
        go_meet
        exact ⟨by simp [fOf, fSwap, hv], by simp [fOf, fSwap, hv], rfl⟩
      · go_wp2
        go_meet
        exact ⟨by simp [fOf, fSwap, hv], by simp [fOf, fSwap, hv], rfl⟩
    by_cases q4 : op = 4
    · subst q4
      go_wp2
      go_meet
      exact ⟨rfl, rfl, rfl⟩
    go_wp2
    go_meet
    exact ⟨by simp [fOf, fLoad, q2, q3, q4], by simp [fOf, fLoad, q2, q3, q4], rfl⟩
  case rest =>
    obtain ⟨rfl, rfl, hw⟩ := hcut
    have hw' := hw.symm
    clear hw
    subst hw'
    obtain ⟨nv, hnv⟩ : ∃ nv, (fOf op x y old).1 = nv := ⟨_, rfl⟩
    obtain ⟨dv, hdv⟩ : ∃ dv, (fOf op x y old).2 = dv := ⟨_, rfl⟩
    rw [hnv, hdv]
    have HNV := Lib.hid hnv
    have HDV := Lib.hid hdv
    clear hnv hdv
    go_wp2_with (at_builtin; refine wpList_append_row _ rfl (.tmp 51) (.tmp 53) 38 rfl 0 0 39 i0 (.int .u64 0) 1 8 Try.underlying38 hi hz0 hz1 hz2 rfl (by decide) _ _ _ rfl HEM.out _ _ _ rfl (HC2.out.alloc _) (rowU_one _ _) (by unfold maxLen; omega) (by omega) (Nat.zero_le _) ?_)
    intro v1 W3 hown1 hgrow1 hat1
    try simp only [Nat.zero_add, List.nil_append] at hown1
    have hk3 : Keeps (fun k => b0 + 3 ≤ k) W2 W3 := ((Keeps.refl _ _).alloc _).grown hgrow1 (fun k hk => by simp [Value.ownBlock] at hk; subst hk; exact .inl (Nat.le_refl _))
    have hv1 : ∀ k, v1.ownBlock = some k → b0 + 3 ≤ k := by
      intro k hk
      rcases hat1 with h | h <;> rw [h] at hk <;> simp [Value.ownBlock] at hk <;> omega
    obtain ⟨g1, c1, rfl⟩ : ∃ g1 c1, v1 = .slice (some ⟨g1, 0, none⟩) cells.length c1 := by
      rcases hown1.2 with ⟨_, h0⟩ | ⟨g1, cap', cur, hv, _⟩
      · omega
      · exact ⟨g1, cap', hv⟩
    have hg1 : b0 + 3 ≤ g1 := hv1 g1 rfl
    have hset := rowU_set hown1 j nv
    obtain ⟨cs1, hcs1⟩ := ownsRow_blk hown1 (k := g1) rfl
    have l1 : g1 < W3.heap.size := hcs1.lt
    have fr1 := hcs1.frozen j
    have e1 : W3.cell? ⟨g1, j, none⟩ = some (.int .u64 old) := by
      rw [hown1.cellAt j (by omega)]
      exact HCE.out
    have hk4 : Keeps (fun k => b0 + 3 ≤ k) W2 (W3.setCell ⟨g1, j, none⟩ (.int .u64 nv)) := hk3.set _ _ (.inl hg1)
    have HSET := Lib.hid hset
    have HK4 := Lib.hid hk4
    have hsz3 := hk3.size
    clear hown1 hgrow1 hat1 hk3 hv1 x0 hset hk4 r0 hcs1
    go_upto_region 17 with fail
    obtain ⟨b3, hb3⟩ : ∃ b3, W3.heap.size = b3 := ⟨_, rfl⟩
    have hk5 : Keeps (fun k => b0 + 3 ≤ k) W2 ((W3.setCell ⟨g1, j, none⟩ (.int .u64 nv)).alloc (.cells #[.int .i64 op, .int .i64 j, .int .u64 old, .int .u64 nv, .bool dv] 54)) := HK4.out.alloc _
    have k35 : Blk ((W3.setCell ⟨g1, j, none⟩ (.int .u64 nv)).alloc (.cells #[.int .i64 op, .int .i64 j, .int .u64 old, .int .u64 nv, .bool dv] 54)) b3 #[.int .i64 op, .int .i64 j, .int .u64 old, .int .u64 nv, .bool dv] 54 := Blk.new' _ _ (by simp [hb3])
    have hs5 : ((W3.setCell ⟨g1, j, none⟩ (.int .u64 nv)).alloc (.cells #[.int .i64 op, .int .i64 j, .int .u64 old, .int .u64 nv, .bool dv] 54)).heap.size = b3 + 1 := by simp [hb3]
    have hset5 := HSET.out.alloc (.cells #[.int .i64 op, .int .i64 j, .int .u64 old, .int .u64 nv, .bool dv] 54)
    rw [hb3]
    obtain ⟨W5, hW5⟩ : ∃ W5, ((W3.setCell ⟨g1, j, none⟩ (.int .u64 nv)).alloc (.cells #[.int .i64 op, .int .i64 j, .int .u64 old, .int .u64 nv, .bool dv] 54)) = W5 := ⟨_, rfl⟩
    rw [hW5] at hk5 k35 hs5 hset5 ⊢
    have kb5 := hk5.blk HKB.out (by omega)
    have kr5 := hk5.blk HKR.out (by omega)
    have ka5 := hk5.blk HKA.out (by omega)
    have hl5 : W5.ownsRow 0 54 5 (.slice la L.length lc) L.length (encs L) := ownsRow_kept HL.out fun k hk => by
      obtain ⟨cs, hcs⟩ := ownsRow_blk HL.out hk
      have hlt := hcs.lt
      exact (hk5.block k (Nat.lt_of_lt_of_le hlt HK2.out.size) (by omega)).trans (HK2.out.block k hlt id)
    obtain ⟨i1, hj1, hy0, hy1, hy2⟩ := info_parts infoAccess
    rw [hb3] at l1
    have hbb : b0 + 3 ≤ b3 := by rw [← hb3, ← hsz]; exact hsz3
    have sOf : ∀ w', Keeps (fun k => k = b0 + 1 ∨ k = b0 + 1 + 1 ∨ b3 + 1 ≤ k) W5 w' → Keeps (fun k => k = b0 + 1 ∨ k = b0 + 1 + 1 ∨ b3 + 1 ≤ k) W5 w' ∧ w'.cell? ⟨b0, 1, none⟩ = some (.int .i64 most) ∧ w'.cell? ⟨b0, 2, none⟩ = some (.slice la L.length lc) ∧
        w'.cell? ⟨b3, 0, none⟩ = some (.int .i64 op) ∧ w'.cell? ⟨b3, 1, none⟩ = some (.int .i64 j) ∧ w'.cell? ⟨b3, 2, none⟩ = some (.int .u64 old) ∧ w'.cell? ⟨b3, 3, none⟩ = some (.int .u64 nv) ∧ w'.cell? ⟨b3, 4, none⟩ = some (.bool dv) := by
      intro w' hk
      have h1 := hk.blk kb5 (by omega)
      have h2 := hk.blk k35 (by omega)
      exact ⟨hk, by simpa using h1.cell 1, by simpa using h1.cell 2, by simpa using h2.cell 0, by simpa using h2.cell 1, by simpa using h2.cell 2, by simpa using h2.cell 3, by simpa using h2.cell 4⟩
    go_cut [12] from 18 (fun n wx => n = .int .i64 0 ∧ ∃ lv', Keeps (fun k => k = b0 + 1 ∨ k = b0 + 1 + 1 ∨ b3 + 1 ≤ k) W5 wx ∧ Blk wx (b0 + 1) #[.slice (some ⟨g1, 0, none⟩) cells.length c1, .int .i64 most, lv'] 59 ∧ Blk wx (b0 + 1 + 1) #[.int .i64 op, .int .i64 j, .int .u64 old, .int .u64 nv, .bool dv] 54 ∧
      wx.ownsRow 0 54 5 lv' (L ++ [(⟨op, j, old, nv, dv⟩ : Acc)]).length (encs (L ++ [(⟨op, j, old, nv, dv⟩ : Acc)])) ∧ ∀ k, lv'.ownBlock = some k → b3 + 1 ≤ k)
    case first =>
      have KR5 := Lib.hid kr5
      have KA5 := Lib.hid ka5
      have HL5 := Lib.hid hl5
      have SOF := Lib.hid sOf
      clear kr5 ka5 hl5 sOf hk5 k35 kb5 hset5 HSET HK4 HK2 HKB HKR HKA HL HC2 HEM HCE HNV HDV
      have lOf : ∀ w', Keeps (fun k => b3 + 1 ≤ k) W5 w' → w'.ownsRow 0 54 5 (.slice la L.length lc) L.length (encs L) := fun w' hk => ownsRow_kept HL5.out fun k hk' => by
        obtain ⟨cs, hcs⟩ := ownsRow_blk HL5.out hk'
        exact hk.block k hcs.lt (by have := hcs.lt; omega)
      have LOF := Lib.hid lOf
      clear lOf
      have u1 : Keeps (fun k => b3 + 1 ≤ k) W5 ((W5.alloc (.cells #[] 54)).drew) := ((Keeps.refl _ _).alloc _).drew
      have u2 : Keeps (fun k => b3 + 1 ≤ k) W5 (((W5.alloc (.cells #[] 54)).alloc (.cells #[.int .i64 op, .int .i64 j, .int .u64 old, .int .u64 nv, .bool dv] 54)).drew) := (((Keeps.refl _ _).alloc _).alloc _).drew
      have u3 : Keeps (fun k => b3 + 1 ≤ k) W5 (((W5.alloc (.cells #[.int .i64 op, .int .i64 j, .int .u64 old, .int .u64 nv, .bool dv] 54)).alloc (.cells #[] 54)).drew) := (((Keeps.refl _ _).alloc _).alloc _).drew
      have p1 : ((W5.alloc (.cells #[] 54)).drew).ownsRow 0 54 5 (.slice (some ⟨b3 + 1, 0, none⟩) 0 0) 0 [] := by have := ownsRow_empty W5 54 5; rw [hs5] at this; exact this
      have p2 : (((W5.alloc (.cells #[] 54)).alloc (.cells #[.int .i64 op, .int .i64 j, .int .u64 old, .int .u64 nv, .bool dv] 54)).drew).ownsRow 0 54 5 (.slice (some ⟨b3 + 1, 0, none⟩) 0 0) 0 [] := by have := (ownsRow_empty W5 54 5).alloc (.cells #[.int .i64 op, .int .i64 j, .int .u64 old, .int .u64 nv, .bool dv] 54); rw [hs5] at this; exact this
      have p3 : (((W5.alloc (.cells #[.int .i64 op, .int .i64 j, .int .u64 old, .int .u64 nv, .bool dv] 54)).alloc (.cells #[] 54)).drew).ownsRow 0 54 5 (.slice (some ⟨b3 + 1 + 1, 0, none⟩) 0 0) 0 [] := by have := ownsRow_empty (W5.alloc (.cells #[.int .i64 op, .int .i64 j, .int .u64 old, .int .u64 nv, .bool dv] 54)) 54 5; rw [World.size_alloc, hs5] at this; exact this
      have q2 : (((W5.alloc (.cells #[] 54)).alloc (.cells #[.int .i64 op, .int .i64 j, .int .u64 old, .int .u64 nv, .bool dv] 54)).drew).ownsRow 0 54 5 (.slice (some ⟨b3 + 1 + 1, 0, none⟩) 1 1) 1 [.int .i64 op, .int .i64 j, .int .u64 old, .int .u64 nv, .bool dv] := by have := ownsRow_one (W5.alloc (.cells #[] 54)) 54 5 #[.int .i64 op, .int .i64 j, .int .u64 old, .int .u64 nv, .bool dv] rfl; rw [World.size_alloc, hs5] at this; exact this
      have q3 : (((W5.alloc (.cells #[.int .i64 op, .int .i64 j, .int .u64 old, .int .u64 nv, .bool dv] 54)).alloc (.cells #[] 54)).drew).ownsRow 0 54 5 (.slice (some ⟨b3 + 1, 0, none⟩) 1 1) 1 [.int .i64 op, .int .i64 j, .int .u64 old, .int .u64 nv, .bool dv] := by have := (ownsRow_one W5 54 5 #[.int .i64 op, .int .i64 j, .int .u64 old, .int .u64 nv, .bool dv] rfl).alloc (.cells #[] 54); rw [hs5] at this; exact this
      have U1 := Lib.hid u1
      have U2 := Lib.hid u2
      have U3 := Lib.hid u3
      have P1 := Lib.hid p1
      have P2 := Lib.hid p2
      have P3 := Lib.hid p3
      have Q2 := Lib.hid q2
      have Q3 := Lib.hid q3
      have hE1 : ∀ u ∈ [.int .i64 op, .int .i64 j, .int .u64 old, .int .u64 nv, .bool dv], Value.oneCell' u = true := by simp [Value.oneCell']
      clear u1 u2 u3 p1 p2 p3 q2 q3
      have far1 : ∀ (w : World) (v : Value) (o o' : Nat), (w.setCell ⟨b0 + 1, o, none⟩ v).cell? ⟨b0, o', none⟩ = w.cell? ⟨b0, o', none⟩ := fun w v o o' => cell_set_far _ _ _ _ (by dsimp only; omega)
      have far2 : ∀ (w : World) (v : Value) (o o' : Nat), (w.setCell ⟨b0 + 1, o, none⟩ v).cell? ⟨b3, o', none⟩ = w.cell? ⟨b3, o', none⟩ := fun w v o o' => cell_set_far _ _ _ _ (by dsimp only; omega)
      have far3 : ∀ (w : World) (v : Value) (o o' : Nat), (w.setCell ⟨b0 + 1 + 1, o, none⟩ v).cell? ⟨b0, o', none⟩ = w.cell? ⟨b0, o', none⟩ := fun w v o o' => cell_set_far _ _ _ _ (by dsimp only; omega)
      have far4 : ∀ (w : World) (v : Value) (o o' : Nat), (w.setCell ⟨b0 + 1 + 1, o, none⟩ v).cell? ⟨b3, o', none⟩ = w.cell? ⟨b3, o', none⟩ := fun w v o o' => cell_set_far _ _ _ _ (by dsimp only; omega)
      have ne1 : ¬ b3 = b0 + 1 := by omega
      have ne2 : ¬ b3 = b0 + 1 + 1 := by omega
      obtain ⟨-, t1, t2, t3, t4, t5, t6, t7⟩ := SOF.out W5 (Keeps.refl _ _)
      go_region_held_law (fun w' => w'.cell? ⟨b0, 1, none⟩ = some (.int .i64 most) ∧ w'.cell? ⟨b0, 2, none⟩ = some (.slice la L.length lc) ∧
        w'.cell? ⟨b3, 0, none⟩ = some (.int .i64 op) ∧ w'.cell? ⟨b3, 1, none⟩ = some (.int .i64 j) ∧ w'.cell? ⟨b3, 2, none⟩ = some (.int .u64 old) ∧ w'.cell? ⟨b3, 3, none⟩ = some (.int .u64 nv) ∧ w'.cell? ⟨b3, 4, none⟩ = some (.bool dv))
        (first
          | go_keep
          | (simp only [far1, far2, far3, far4]; exact ⟨by assumption, by assumption, by assumption, by assumption, by assumption, by assumption, by assumption⟩))
        (first
          | (refine step_append_row rfl (.tmp 68) (.tmp 70) 57 rfl 0 0 54 i1 (.agg #[.int .i64 0, .int .i64 0, .int .u64 0, .int .u64 0, .bool false]) 5 40 Try.underlying57 hj1 hy0 hy1 hy2 rfl (by decide) (.slice (some ⟨b3 + 1, 0, none⟩) 0 0) 0 [] rfl P1.out _ _ _ rfl (LOF.out _ U1.out) (encs_one _) (by unfold maxLen; omega) (by omega) (Nat.zero_le _) ?_; intro v6 w6 hown6 hgrow6 hat6; (try simp only [Nat.zero_add, List.nil_append] at hown6); have hk6 : Keeps (fun k => b3 + 1 ≤ k) W5 w6 := U1.out.grown hgrow6 (fun k hk => by simp [Value.ownBlock] at hk; subst hk; exact .inl (by omega)); have hv6 : ∀ k, v6.ownBlock = some k → b3 + 1 ≤ k := (by intro k hk; rcases hat6 with h | h <;> rw [h] at hk <;> simp [Value.ownBlock] at hk <;> omega); obtain ⟨a6, c6, rfl, _, _⟩ := ownsRow_form hown6; have HO6 := Lib.hid hown6; have HV6 := Lib.hid hv6; clear hown6 hgrow6 hat6 hv6; obtain ⟨-, t61, t62, t63, t64, t65, t66, t67⟩ := SOF.out w6 (hk6.mono fun k h => .inr (.inr h)); have HK6 := Lib.hid hk6; clear hk6)
          | (refine step_append_row rfl (.tmp 68) (.tmp 70) 57 rfl 0 0 54 i1 (.agg #[.int .i64 0, .int .i64 0, .int .u64 0, .int .u64 0, .bool false]) 5 40 Try.underlying57 hj1 hy0 hy1 hy2 rfl (by decide) (.slice (some ⟨b3 + 1, 0, none⟩) 0 0) 0 [] rfl P2.out _ _ _ rfl (LOF.out _ U2.out) (encs_one _) (by unfold maxLen; omega) (by omega) (Nat.zero_le _) ?_; intro v6 w6 hown6 hgrow6 hat6; (try simp only [Nat.zero_add, List.nil_append] at hown6); have hk6 : Keeps (fun k => b3 + 1 ≤ k) W5 w6 := U2.out.grown hgrow6 (fun k hk => by simp [Value.ownBlock] at hk; subst hk; exact .inl (by omega)); have hv6 : ∀ k, v6.ownBlock = some k → b3 + 1 ≤ k := (by intro k hk; rcases hat6 with h | h <;> rw [h] at hk <;> simp [Value.ownBlock] at hk <;> omega); have ho6 := Q2.out.kept hgrow6 (.inr (by simp [Value.ownBlock])); have OO6 := Lib.hid ho6; clear ho6; obtain ⟨a6, c6, rfl, _, _⟩ := ownsRow_form hown6; have HO6 := Lib.hid hown6; have HV6 := Lib.hid hv6; clear hown6 hgrow6 hat6 hv6; obtain ⟨-, t61, t62, t63, t64, t65, t66, t67⟩ := SOF.out w6 (hk6.mono fun k h => .inr (.inr h)); have HK6 := Lib.hid hk6; clear hk6)
          | (refine step_append_row rfl (.tmp 68) (.tmp 70) 57 rfl 0 0 54 i1 (.agg #[.int .i64 0, .int .i64 0, .int .u64 0, .int .u64 0, .bool false]) 5 40 Try.underlying57 hj1 hy0 hy1 hy2 rfl (by decide) (.slice (some ⟨b3 + 1 + 1, 0, none⟩) 0 0) 0 [] rfl P3.out _ _ _ rfl (LOF.out _ U3.out) (encs_one _) (by unfold maxLen; omega) (by omega) (Nat.zero_le _) ?_; intro v6 w6 hown6 hgrow6 hat6; (try simp only [Nat.zero_add, List.nil_append] at hown6); have hk6 : Keeps (fun k => b3 + 1 ≤ k) W5 w6 := U3.out.grown hgrow6 (fun k hk => by simp [Value.ownBlock] at hk; subst hk; exact .inl (by omega)); have hv6 : ∀ k, v6.ownBlock = some k → b3 + 1 ≤ k := (by intro k hk; rcases hat6 with h | h <;> rw [h] at hk <;> simp [Value.ownBlock] at hk <;> omega); have ho6 := Q3.out.kept hgrow6 (.inr (by simp [Value.ownBlock])); have OO6 := Lib.hid ho6; clear ho6; obtain ⟨a6, c6, rfl, _, _⟩ := ownsRow_form hown6; have HO6 := Lib.hid hown6; have HV6 := Lib.hid hv6; clear hown6 hgrow6 hat6 hv6; obtain ⟨-, t61, t62, t63, t64, t65, t66, t67⟩ := SOF.out w6 (hk6.mono fun k h => .inr (.inr h)); have HK6 := Lib.hid hk6; clear hk6)
          | (refine step_append_row rfl (.tmp 71) (.tmp 73) 57 rfl 0 0 54 i1 (.agg #[.int .i64 0, .int .i64 0, .int .u64 0, .int .u64 0, .bool false]) 5 40 Try.underlying57 hj1 hy0 hy1 hy2 rfl (by decide) (.slice a6 L.length c6) L.length (encs L) rfl (HO6.out.alloc _) _ _ _ rfl (ownsRow_one w6 54 5 #[.int .i64 op, .int .i64 j, .int .u64 old, .int .u64 nv, .bool dv] rfl) hE1 (by unfold maxLen; omega) (by omega) (Nat.zero_le _) ?_; intro v7 w7 hown7 hgrow7 hat7; have hk7 : Keeps (fun k => b3 + 1 ≤ k) W5 w7 := (HK6.out.alloc _).grown hgrow7 (fun k hk => .inl (HV6.out k hk)); obtain ⟨a7, c7, rfl, _, _⟩ := ownsRow_form hown7; have kr7 := hk7.blk KR5.out (by omega); have ka7 := hk7.blk KA5.out (by omega); have m0 := kr7.cell 0; have m1 := kr7.cell 1; have m2 := kr7.cell 2; have n0 := ka7.cell 0; have n1 := ka7.cell 1; have n2 := ka7.cell 2; have n3 := ka7.cell 3; have n4 := ka7.cell 4; have e0 := kr7.frozen 0; have e1 := kr7.frozen 1; have e2 := kr7.frozen 2; have d0 := ka7.frozen 0; have d1 := ka7.frozen 1; have d2 := ka7.frozen 2; have d3 := ka7.frozen 3; have d4 := ka7.frozen 4; simp at m0 m1 m2 n0 n1 n2 n3 n4; have hv7 : ∀ k, (Value.slice a7 (L.length + 1) c7).ownBlock = some k → b3 + 1 ≤ k := (fun k hk => hat7.elim (fun h => HV6.out k (h ▸ hk)) (fun h => by rw [h] at hk; have := HK6.out.size; simp at hk; omega)); have HO7 := Lib.hid hown7; have KR7 := Lib.hid kr7; have KA7 := Lib.hid ka7; have lr7 := kr7.lt; have la7 := ka7.lt; clear hown7 hgrow7 hat7 kr7 ka7; obtain ⟨-, t71, t72, t73, t74, t75, t76, t77⟩ := SOF.out w7 (hk7.mono fun k h => .inr (.inr h)); have HK7 := Lib.hid hk7; have HV7 := Lib.hid hv7; clear hk7 hv7)
          | (refine step_append_row rfl (.tmp 71) (.tmp 73) 57 rfl 0 0 54 i1 (.agg #[.int .i64 0, .int .i64 0, .int .u64 0, .int .u64 0, .bool false]) 5 40 Try.underlying57 hj1 hy0 hy1 hy2 rfl (by decide) (.slice a6 L.length c6) L.length (encs L) rfl HO6.out _ _ _ rfl OO6.out hE1 (by unfold maxLen; omega) (by omega) (Nat.zero_le _) ?_; intro v7 w7 hown7 hgrow7 hat7; have hk7 : Keeps (fun k => b3 + 1 ≤ k) W5 w7 := HK6.out.grown hgrow7 (fun k hk => .inl (HV6.out k hk)); obtain ⟨a7, c7, rfl, _, _⟩ := ownsRow_form hown7; have kr7 := hk7.blk KR5.out (by omega); have ka7 := hk7.blk KA5.out (by omega); have m0 := kr7.cell 0; have m1 := kr7.cell 1; have m2 := kr7.cell 2; have n0 := ka7.cell 0; have n1 := ka7.cell 1; have n2 := ka7.cell 2; have n3 := ka7.cell 3; have n4 := ka7.cell 4; have e0 := kr7.frozen 0; have e1 := kr7.frozen 1; have e2 := kr7.frozen 2; have d0 := ka7.frozen 0; have d1 := ka7.frozen 1; have d2 := ka7.frozen 2; have d3 := ka7.frozen 3; have d4 := ka7.frozen 4; simp at m0 m1 m2 n0 n1 n2 n3 n4; have hv7 : ∀ k, (Value.slice a7 (L.length + 1) c7).ownBlock = some k → b3 + 1 ≤ k := (fun k hk => hat7.elim (fun h => HV6.out k (h ▸ hk)) (fun h => by rw [h] at hk; have := HK6.out.size; simp at hk; omega)); have HO7 := Lib.hid hown7; have KR7 := Lib.hid kr7; have KA7 := Lib.hid ka7; have lr7 := kr7.lt; have la7 := ka7.lt; clear hown7 hgrow7 hat7 kr7 ka7; obtain ⟨-, t71, t72, t73, t74, t75, t76, t77⟩ := SOF.out w7 (hk7.mono fun k h => .inr (.inr h)); have HK7 := Lib.hid hk7; have HV7 := Lib.hid hv7; clear hk7 hv7))
      all_goals
        have ha1 : (Value.slice a7 (L.length + 1) c7).ownBlock ≠ some (b0 + 1) := fun h => by have := HV7.out _ h; omega
        have ha2 : (Value.slice a7 (L.length + 1) c7).ownBlock ≠ some (b0 + 1 + 1) := fun h => by have := HV7.out _ h; omega
        go_wp2_with fail
        go_meet
        refine ⟨rfl, .slice a7 (L.length + 1) c7, (((((((((HK7.out.mono fun k h => .inr (.inr h)).set ⟨b0 + 1, 0, none⟩ (.slice (some ⟨g1, 0, none⟩) cells.length c1) (.inl (.inl rfl))).set ⟨b0 + 1, 1, none⟩ (.int .i64 most) (.inl (.inl rfl))).set ⟨b0 + 1, 2, none⟩ (.slice a7 (L.length + 1) c7) (.inl (.inl rfl))).set ⟨b0 + 1 + 1, 0, none⟩ (.int .i64 op) (.inl (.inr (.inl rfl)))).set ⟨b0 + 1 + 1, 1, none⟩ (.int .i64 j) (.inl (.inr (.inl rfl)))).set ⟨b0 + 1 + 1, 2, none⟩ (.int .u64 old) (.inl (.inr (.inl rfl)))).set ⟨b0 + 1 + 1, 3, none⟩ (.int .u64 nv) (.inl (.inr (.inl rfl)))).set ⟨b0 + 1 + 1, 4, none⟩ (.bool dv) (.inl (.inr (.inl rfl)))), ((((((((KR7.out.set 0 (.slice (some ⟨g1, 0, none⟩) cells.length c1)).set 1 (.int .i64 most)).set 2 (.slice a7 (L.length + 1) c7)).other (a := ⟨b0 + 1 + 1, 0, none⟩) (by simp) (.int .i64 op)).other (a := ⟨b0 + 1 + 1, 1, none⟩) (by simp) (.int .i64 j)).other (a := ⟨b0 + 1 + 1, 2, none⟩) (by simp) (.int .u64 old)).other (a := ⟨b0 + 1 + 1, 3, none⟩) (by simp) (.int .u64 nv)).other (a := ⟨b0 + 1 + 1, 4, none⟩) (by simp) (.bool dv)), ((((((((KA7.out.other (a := ⟨b0 + 1, 0, none⟩) (by simp) (.slice (some ⟨g1, 0, none⟩) cells.length c1)).other (a := ⟨b0 + 1, 1, none⟩) (by simp) (.int .i64 most)).other (a := ⟨b0 + 1, 2, none⟩) (by simp) (.slice a7 (L.length + 1) c7)).set 0 (.int .i64 op)).set 1 (.int .i64 j)).set 2 (.int .u64 old)).set 3 (.int .u64 nv)).set 4 (.bool dv)), ?_, HV7.out⟩
        have h := (ownsRow_set_far (ownsRow_set_far (ownsRow_set_far (ownsRow_set_far (ownsRow_set_far (ownsRow_set_far (ownsRow_set_far (ownsRow_set_far HO7.out ⟨b0 + 1, 0, none⟩ (.slice (some ⟨g1, 0, none⟩) cells.length c1) ha1) ⟨b0 + 1, 1, none⟩ (.int .i64 most) ha1) ⟨b0 + 1, 2, none⟩ (.slice a7 (L.length + 1) c7) ha1) ⟨b0 + 1 + 1, 0, none⟩ (.int .i64 op) ha2) ⟨b0 + 1 + 1, 1, none⟩ (.int .i64 j) ha2) ⟨b0 + 1 + 1, 2, none⟩ (.int .u64 old) ha2) ⟨b0 + 1 + 1, 3, none⟩ (.int .u64 nv) ha2) ⟨b0 + 1 + 1, 4, none⟩ (.bool dv) ha2)
        rw [show (L ++ [(⟨op, j, old, nv, dv⟩ : Acc)]).length = L.length + 1 by simp, encs_snoc]
        exact h
    case rest =>
      obtain ⟨rfl, lv', hk6, kr6, ka6, hl6, hvl⟩ := hcut
      obtain ⟨al, cl, rfl, _, _⟩ := ownsRow_form hl6
      have r0 := kr6.cell 0
      have r1 := kr6.cell 1
      have r2 := kr6.cell 2
      have s0 := ka6.cell 0
      have s1 := ka6.cell 1
      have s2 := ka6.cell 2
      have s3 := ka6.cell 3
      have s4 := ka6.cell 4
      simp at r0 r1 r2 s0 s1 s2 s3 s4
      have hkf : Keeps Nothing w wc := ⟨hk6.os.trans (hk5.os.trans HK2.out.os), hk6.tape.trans (hk5.tape.trans HK2.out.tape), hk6.output.trans (hk5.output.trans HK2.out.output), Nat.le_trans HK2.out.size (Nat.le_trans hk5.size hk6.size), fun k hk _ =>
        ((hk6.block k (Nat.lt_of_lt_of_le hk (Nat.le_trans HK2.out.size hk5.size)) (by omega)).trans (hk5.block k (Nat.lt_of_lt_of_le hk HK2.out.size) (by omega))).trans (HK2.out.block k hk id)⟩
      have hrow : wc.ownsRow 0 39 1 (.slice (some ⟨g1, 0, none⟩) cells.length c1) (cells.set j nv).length ((cells.set j nv).map (Value.int .u64)) := by
        have h := ownsRow_kept hset5 fun k hk => hk6.block k (by simp [Value.ownBlock] at hk; subst hk; omega) (by simp [Value.ownBlock] at hk; subst hk; omega)
        simpa using h
      have hbl : ∀ k ∈ refBlocks (.agg #[.slice (some ⟨g1, 0, none⟩) cells.length c1, .int .i64 most, .slice al (L ++ [(⟨op, j, old, nv, dv⟩ : Acc)]).length cl]), k ∈ refBlocks (.agg #[.slice (some ⟨g, 0, none⟩) cells.length cc, .int .i64 most, .slice la L.length lc]) ∨ w.heap.size ≤ k := by
        intro k hk
        simp only [refBlocks, List.mem_append, Option.mem_toList] at hk
        rcases hk with h | h
        · have h2 : g1 = k := by simpa [Value.ownBlock] using h
          exact .inr (by omega)
        · have h2 := hvl k (by simpa using h)
          exact .inr (by omega)
      have HBL := Lib.hid hbl
      have HKF := Lib.hid hkf
      have HROW := Lib.hid hrow
      have HL6 := Lib.hid hl6
      clear hbl hvl hkf hrow hl6 hk6 kr6 ka6 hk5 k35 kb5 kr5 ka5 hl5 sOf hset5
      go_wp2
      refine bodyPost_ret (v := .tuple #[.agg #[.slice (some ⟨g1, 0, none⟩) cells.length c1, .int .i64 most, .slice al (L ++ [(⟨op, j, old, nv, dv⟩ : Acc)]).length cl], .agg #[.int .i64 op, .int .i64 j, .int .u64 old, .int .u64 nv, .bool dv], .int .i64 0]) (by simp [results, Try.results67, go_sem, r0, r1, r2, s0, s1, s2, s3, s4]) rfl ⟨_, by rw [HNV.out, HDV.out], ⟨_, _, rfl, by rw [HNV.out]; exact HROW.out, by rw [HNV.out, HDV.out]; exact HL6.out⟩, HKF.out, HBL.out⟩

end Go.Proofs.Ytejbeioiomjbpaa
