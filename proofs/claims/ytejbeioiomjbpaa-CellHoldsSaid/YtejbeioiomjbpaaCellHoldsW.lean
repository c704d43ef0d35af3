/-
  CellHolds, walked.
-/
import Derived.Test.YtejbeioiomjbpaaCellWorks
import Derived.Test.YtejbeioiomjbpaaCellLaw
import Derived.Test.YtejbeioiomjbpaaStay3
import Derived.Test.YtejbeioiomjbpaaOpens
import Derived.Test.YtejbeioiomjbpaaMixR
import Derived.Test.YtejbeioiomjbpaaSpinHoldsW
import Derived.Deep.DeepCutAuto
import Derived.Deep.CutBlock
import Derived.Deep.QuietTactic
import Derived.BigQuiet
import Derived.BigGuardPart
namespace Go.Proofs.Ytejbeioiomjbpaa
open Go.RowKit Go.Shelf
attribute [local go_sem] Oper.semAt_some

/-- The place of an act: Go's own remainder, twice. -/
def placeOf (k : Int) (n : Nat) : Int := Int.tmod (Int.tmod k n + n) n
theorem placeOf_bd (k : Int) (n : Nat) (h : 0 < n) : 0 ≤ placeOf k n ∧ placeOf k n < n := by
  have h2 : -(n : Int) < Int.tmod k n := by
    by_cases hk : 0 ≤ k
    · have := Int.tmod_nonneg (n : Int) hk; omega
    · have h3 := Int.tmod_lt_of_pos (-k) (show (0 : Int) < n by omega)
      rw [Int.neg_tmod] at h3
      omega
  exact ⟨Int.tmod_nonneg _ (by omega), Int.tmod_lt_of_pos _ (by omega)⟩

theorem add_block (x : Addr) (n : Nat) : (x.add n).block = x.block := by unfold Addr.add; split <;> rfl
theorem add_off (x : Addr) (n : Nat) : (x.add n).off = x.off + n := by unfold Addr.add; split <;> simp_all
theorem addr_part (x : Addr) (n i : Nat) (hi : 0 < i) : x.add (n + i) = ⟨(x.add n).block, (x.add n).off + i, none⟩ := by
  rw [add_block, add_off]
  unfold Addr.add
  rw [if_neg (by omega), Nat.add_assoc]

theorem place_nat (x : Int) (n : Nat) (h0 : 0 < n) (h1 : n ≤ 200) : ∃ k : Nat, (wrap64 (x.tmod n + n)).tmod n = k ∧ k < n := by
  have hb := placeOf_bd x n h0
  have h2 : -(n : Int) < Int.tmod x n := by
    by_cases hk : 0 ≤ x
    · have := Int.tmod_nonneg (n : Int) hk; omega
    · have h3 := Int.tmod_lt_of_pos (-x) (show (0 : Int) < n by omega)
      rw [Int.neg_tmod] at h3
      omega
  have h4 := Int.tmod_lt_of_pos x (show (0 : Int) < n by omega)
  have hw : wrap64 (x.tmod n + n) = x.tmod n + n := by
    unfold wrap64
    omega
  rw [hw]
  unfold placeOf at hb
  exact ⟨((x.tmod n + n).tmod n).toNat, by omega, by omega⟩

theorem Ar.does_many' (A : Ar) (op : Int) (k : Nat) (v : Int) (d : Bool) : (A.does op k v d).many = A.many + 1 := by simp [Ar.does, Ar.noted]

theorem mem_mid {α : Type} {x y : α} {G l : List α} (h : y ∈ G ++ x :: l) : y ∈ x :: (G ++ l) := by
  rcases List.mem_append.1 h with h | h
  · exact List.mem_cons_of_mem _ (List.mem_append.2 (.inl h))
  · rcases List.mem_cons.1 h with rfl | h
    · exact List.mem_cons_self ..
    · exact List.mem_cons_of_mem _ (List.mem_append.2 (.inr h))
theorem mem_skip {α : Type} {x y : α} {G l : List α} (h : y ∈ G ++ l) : y ∈ G ++ x :: l := by
  rcases List.mem_append.1 h with h | h
  · exact List.mem_append.2 (.inl h)
  · exact List.mem_append.2 (.inr (List.mem_cons_of_mem _ h))

/-- The box of the list set. -/
theorem asked_set {σ : Type} {M : World → σ → List Nat → Prop} {w0 : World} {S0 : List Nat} {G : List (Nat × Obj)} {x : σ} {S : List Nat} {W : World} {ba bc : Nat} {u : Value} {e e1 e2 : TypeId} {c1 c2 : Array Value} {M' : Framed M}
    (h : stay M w0 S0 (G ++ [(ba, .cells #[u] e (0, 0)), (bc, .cells c1 e1 (0, 0)), (bc + 1, .cells c2 e2 (0, 0))]) x S W) (hna : ba ∉ own G) (hne : ba ≠ bc ∧ ba ≠ bc + 1) (v : Value) :
    stay M w0 S0 (G ++ [(ba, .cells #[v] e (0, 0)), (bc, .cells c1 e1 (0, 0)), (bc + 1, .cells c2 e2 (0, 0))]) x S (W.setCell ⟨ba, 0, none⟩ v) := by
  refine h.own_turned M' ((Keeps.refl _ _).set _ _ (.inl (by simp [own]))) ?_ (by simp [own])
  intro y hy
  have hoth : ∀ {b : Nat} {o : Obj}, b ≠ ba → W.heap[b]? = some o → (W.setCell ⟨ba, 0, none⟩ v).heap[b]? = some o := fun hb ho => (heap_setCell_other W ⟨ba, 0, none⟩ _ v hb).trans ho
  simp only [List.mem_append, List.mem_cons, List.not_mem_nil, or_false] at hy
  rcases hy with hy | rfl | rfl | rfl
  · exact hoth (fun e => hna (List.mem_map.2 ⟨y, hy, e⟩)) (h.lie y (by simp [hy]))
  · have hk : Blk W ba #[u] e := h.lie (ba, _) (by simp)
    exact hk.set 0 v
  · exact hoth (Ne.symm hne.1) (h.lie (bc, _) (by simp))
  · exact hoth (Ne.symm hne.2) (h.lie (bc + 1, _) (by simp))

/-- A place of a row of one's own, and a box, set. -/
theorem two_set {σ α : Type} {M : World → σ → List Nat → Prop} {w0 : World} {S0 : List Nat} {F : List (Nat × Obj)} {x : σ} {S U : List Nat} {W : World} {pre : List α} {bn br : Nat} {u : Value} {l : List Value} {e e' : TypeId} (hM : Framed M)
    (h : inner (base M w0 S0) ((bn, .cells #[u] e (0, 0)) :: (br, .cells l.toArray e' (0, 0)) :: F) x S U pre W) (hn : bn ∉ own F) (hne : bn ≠ br) (hr : br ∉ own F) (p : Nat) (v v' : Value) (pre' : List α) :
    inner (base M w0 S0) ((bn, .cells #[v'] e (0, 0)) :: (br, .cells (l.set p v).toArray e' (0, 0)) :: F) x S U pre' ((W.setCell ⟨br, p, none⟩ v).setCell ⟨bn, 0, none⟩ v') ∧ Same U W ((W.setCell ⟨br, p, none⟩ v).setCell ⟨bn, 0, none⟩ v') := by
  refine inner_turned hM h (((Keeps.refl _ _).set _ _ (.inl (by simp [own]))).set _ _ (.inl (by simp [own]))) ?_ rfl
  intro y hy
  rcases List.mem_cons.1 hy with rfl | hy
  · have hk : Blk W bn #[u] e := h.2.1 (bn, _) (by simp)
    exact (hk.other (a := ⟨br, p, none⟩) hne v).set 0 v'
  rcases List.mem_cons.1 hy with rfl | hy
  · have hk : Blk W br l.toArray e' := h.2.1 (br, _) (by simp)
    have := (hk.set p v).other (a := ⟨bn, 0, none⟩) (Ne.symm hne) v'
    rw [show l.toArray.setIfInBounds p v = (l.set p v).toArray by simp] at this
    exact this
  · have h1 : y.1 ≠ br := fun e => hr (List.mem_map.2 ⟨y, hy, e⟩)
    have h2 : y.1 ≠ bn := fun e => hn (List.mem_map.2 ⟨y, hy, e⟩)
    exact ((heap_setCell_other _ ⟨bn, 0, none⟩ y.1 v' h2).trans (heap_setCell_other W ⟨br, p, none⟩ y.1 v h1)).trans (h.2.1 y (List.mem_cons_of_mem _ (List.mem_cons_of_mem _ hy)))

theorem row_full {w : World} {b e g n : Nat} {xs : List Value} (h : w.ownsRow b e 1 (.slice (some ⟨g, 0, none⟩) n n) n xs) : Blk w g xs.toArray e := by
  obtain ⟨hl, ⟨h1, _⟩ | ⟨g', cap, cur, hv, _, hg, _, _, hc, ht⟩⟩ := h
  · simp at h1
  · simp at hv
    obtain ⟨rfl, rfl⟩ := hv
    have : cur = xs.toArray := by
      rw [← ht, List.take_of_length_le (by simp; omega)]
    rw [← this]
    exact hg

set_option maxRecDepth 100000 in
theorem CellHolds_guard (L : Int) (a : Option Addr) (n1 c1 : Nat) (w : World) (h : L < 1 ∨ 200 < L ∨ 60 < (n1 : Int)) :
    Calls Try.prog 4 #[.int .i64 L, .slice a n1 c1] w fun e w' => e = .returned (.bool true) ∧ Keeps Nothing w w' := by
  have hk0 : Keeps Nothing w ((w.alloc (.cells #[.int .i64 L] 3)).alloc (.cells #[.bool false] 4)) := ((Keeps.refl _ _).alloc _).alloc _
  have hbB : Blk ((w.alloc (.cells #[.int .i64 L] 3)).alloc (.cells #[.bool false] 4)) (w.heap.size + 1) #[.bool false] 4 := Blk.new' _ _ (by simp)
  refine calls_of_wpN Try.func4 rfl ?_
  simp only [Try.ntmps4, List.size_toArray, List.length_cons, List.length_nil, Nat.reduceAdd, Nat.reduceSub, Array.replicate_succ, Array.replicate_zero, List.push_toArray, List.append_toArray, List.nil_append, List.cons_append]
  have HK0 := Lib.hid hk0
  have HBB := Lib.hid hbB
  clear hk0 hbB
  by_cases h1 : L < 1
  · clear h
    go_wp2_with (go_at_call 20; refine (works01_ok _).mono ?_; rintro e w1 ⟨rfl, hk⟩; have kb := hk.blk HBB.out id; have cr := kb.cell 0; have fr := kb.frozen 0; simp at cr; have HK := Lib.hid hk; have HB := Lib.hid kb; clear hk kb)
    have hr := (HB.out.set 0 (.bool true)).cell 0
    simp at hr
    exact bodyN_ret (v := .bool true) [] rfl (by simp) (by simp) (by simp [results, Try.results4, go_sem, World.shut, hr]) ⟨rfl, (HK0.out.then HK.out).set _ _ (.inr (Nat.le_succ _))⟩
  by_cases h2 : 200 < L
  · clear h
    go_wp2_with (go_at_call 20; refine (works01_ok _).mono ?_; rintro e w1 ⟨rfl, hk⟩; have kb := hk.blk HBB.out id; have cr := kb.cell 0; have fr := kb.frozen 0; simp at cr; have HK := Lib.hid hk; have HB := Lib.hid kb; clear hk kb)
    have hr := (HB.out.set 0 (.bool true)).cell 0
    simp at hr
    exact bodyN_ret (v := .bool true) [] rfl (by simp) (by simp) (by simp [results, Try.results4, go_sem, World.shut, hr]) ⟨rfl, (HK0.out.then HK.out).set _ _ (.inr (Nat.le_succ _))⟩
  · have h3 : 60 < (n1 : Int) := by omega
    clear h
    go_wp2_with (go_at_call 20; refine (works01_ok _).mono ?_; rintro e w1 ⟨rfl, hk⟩; have kb := hk.blk HBB.out id; have cr := kb.cell 0; have fr := kb.frozen 0; simp at cr; have HK := Lib.hid hk; have HB := Lib.hid kb; clear hk kb)
    have hr := (HB.out.set 0 (.bool true)).cell 0
    simp at hr
    exact bodyN_ret (v := .bool true) [] rfl (by simp) (by simp) (by simp [results, Try.results4, go_sem, World.shut, hr]) ⟨rfl, (HK0.out.then HK.out).set _ _ (.inr (Nat.le_succ _))⟩

set_option maxRecDepth 100000 in
set_option maxHeartbeats 8000000 in
theorem CellHolds_walk (L : Int) (a : Option Addr) (n1 c1 : Nat) (V : Nat → Nat → Int) (w : World) (_wL : (Lit.int .i64 L).wf = true) (hrow : RowOf [.i64, .i64, .u64, .u64] w a n1 V) :
    Calls Try.prog 4 #[.int .i64 L, .slice a n1 c1] w fun e w' => e = .returned (.bool true) ∧ Keeps Nothing w w' := by
  have hmx := hrow.1
  unfold maxLen at hmx
  have HR := Lib.hid hrow.2
  clear hrow
  obtain ⟨bc, hbc⟩ : ∃ bc, w.heap.size = bc := ⟨_, rfl⟩
  by_cases hlo : L < 1
  · exact CellHolds_guard L a n1 c1 w (by omega)
  by_cases hhi : 200 < L
  · exact CellHolds_guard L a n1 c1 w (by omega)
  by_cases hn : 60 < (n1 : Int)
  · exact CellHolds_guard L a n1 c1 w (by omega)
  obtain ⟨n, rfl⟩ : ∃ n : Nat, L = n := ⟨L.toNat, by omega⟩
  have e0 : newOf (n : Int) = (some ⟨[], n, [], 0⟩, 0) := by unfold newOf; rw [if_pos (by omega)]
  have e1 : allot (some ⟨[], n, [], 0⟩) n = (some (⟨zeros n, n, [], 0⟩ : Ar), (0 : Int), (0 : Int)) := by
    simp only [allot, List.length_nil]
    rw [if_neg (by omega), if_neg (by simp)]
    simp
  refine calls_of_wpN Try.func4 rfl ?_
  simp only [Try.ntmps4, List.size_toArray, List.length_cons, List.length_nil, Nat.reduceAdd, Nat.reduceSub, Array.replicate_succ, Array.replicate_zero, List.push_toArray, List.append_toArray, List.nil_append, List.cons_append]
  obtain ⟨wb, hwb⟩ : ∃ wb, (w.alloc (.cells #[.int .i64 n] 3)).alloc (.cells #[.bool false] 4) = wb := ⟨_, rfl⟩
  have hkb : Keeps Nothing w wb := by rw [← hwb]; exact ((Keeps.refl _ _).alloc _).alloc _
  have hFb : Lie wb [(bc, .cells #[.int .i64 n] 3 (0, 0)), (bc + 1, .cells #[.bool false] 4 (0, 0))] := by
    intro y hy
    simp only [List.mem_cons, List.not_mem_nil, or_false] at hy
    rcases hy with rfl | rfl
    · rw [← hwb, ← hbc]; exact (Blk.new w _ _).alloc _
    · rw [← hwb, ← hbc]; exact Blk.new' _ _ (by simp)
  have hsz : wb.heap.size = bc + 2 := by rw [← hwb, ← hbc]; simp
  have CN := New_any n wb
  rw [e0] at CN
  have kb0 : Blk wb bc #[.int .i64 n] 3 := hFb (bc, _) (by simp)
  have cb := kb0.cell 0
  simp at cb
  go_upto_block 0 with first
    | (go_at_call 14; refine CN.mono ?_; clear CN; rintro e w1 ⟨v, S, rfl, hm, hS, hk, hv | ⟨-, q, rfl⟩⟩; exact absurd hv.1 (by simp); have hs : stay (AtMem (.pointer (some ⟨q, 0, none⟩))) w [] [(bc, .cells #[.int .i64 n] 3 (0, 0)), (bc + 1, .cells #[.bool false] 4 (0, 0))] _ S w1 := stay.firsts hm hkb hk hFb (by rw [hbc]; simp [own]) hS; clear cb; have cb := (hs.blk (b := bc) (cs := #[.int .i64 n]) (e := 3) (by simp)).cell 0; simp at cb; clear hm hS hk)
    | (go_at_call 21; have C := Alloc_any (.pointer (some ⟨q, 0, none⟩)) _ _ n _ hs.mem; rw [e1] at C; refine (stay_call hs C).mono ?_; clear C cb; rintro e w2 ⟨rfl, S2, hs2⟩; replace hs := hs2; clear hs2)
  obtain ⟨ba, hba⟩ : ∃ ba, w2.heap.size = ba := ⟨_, rfl⟩
  have hs3 := hs.box (atMem_framed _) (.cells #[.slice none 0 0] 38)
  rw [hba] at hs3
  obtain ⟨wa, hwa⟩ : ∃ wa, w2.alloc (.cells #[.slice none 0 0] 38) = wa := ⟨_, rfl⟩
  rw [hwa] at hs3 ⊢
  rw [hba]
  have hbane : ba ≠ bc ∧ ba ≠ bc + 1 := by
    have h1 := hs.lie.lt (b := bc) (by simp [own])
    have h2 := hs.lie.lt (b := bc + 1) (by simp [own])
    omega
  clear hwa hba hs hwb hkb hFb hsz
  go_cut [] from 22 (fun wr => ∃ (A : Ar) (asked : List Int) (S : List Nat) (aa : Option Addr) (ac : Nat) (G : List (Nat × Obj)), Chain n A asked ∧ A.many ≤ 60 ∧
      stay (AtMem (.pointer (some ⟨q, 0, none⟩))) w [] (G ++ [(ba, .cells #[.slice aa asked.length ac] 38 (0, 0)), (bc, .cells #[.int .i64 n] 3 (0, 0)), (bc + 1, .cells #[.bool false] 4 (0, 0))]) (some A) S wr ∧
      own G = (Value.slice aa asked.length ac).ownBlock.toList ∧ (∀ W2, Lie W2 G → W2.ownsRow 0 39 1 (.slice aa asked.length ac) asked.length (asked.map (Value.int .u64))) ∧ (ba ∉ own G ∧ bc ∉ own G ∧ bc + 1 ∉ own G))
  case first =>
    go_wp2_with fail
    go_loopw [10] (fun i wr => ∃ (j : Nat) (A : Ar) (asked : List Int) (S : List Nat) (aa : Option Addr) (ac : Nat) (G : List (Nat × Obj)), i = .int .i64 j ∧ j ≤ n1 ∧ Chain n A asked ∧ A.many ≤ j ∧
        stay (AtMem (.pointer (some ⟨q, 0, none⟩))) w [] (G ++ [(ba, .cells #[.slice aa asked.length ac] 38 (0, 0)), (bc, .cells #[.int .i64 n] 3 (0, 0)), (bc + 1, .cells #[.bool false] 4 (0, 0))]) (some A) S wr ∧
        own G = (Value.slice aa asked.length ac).ownBlock.toList ∧ (∀ W2, Lie W2 G → W2.ownsRow 0 39 1 (.slice aa asked.length ac) asked.length (asked.map (Value.int .u64))) ∧ (ba ∉ own G ∧ bc ∉ own G ∧ bc + 1 ∉ own G)) (fun i _ => (n1 - intOf i).toNat)
    case atStart => exact ⟨0, _, [], _, none, 0, [], rfl, by omega, Chain.start n n, by simp, hs3, rfl, fun W2 _ => World.ownsRow_nil _ _ _ _, by simp [own]⟩
    case round =>
      obtain ⟨j, A, asked, S3, aa, ac, G, rfl, hj, hch, hmany, hs4, hG, hown, hnG⟩ := hrel
      clear hs3
      by_cases hlt : j < n1
      · obtain ⟨x, rfl, hcell⟩ := HR.out j hlt
        have hk0 := hs4.nothing
        have d0 := hk0.cell (hcell 0 .i64 rfl).1
        have d1 := hk0.cell (hcell 1 .i64 rfl).1
        have d2 := hk0.cell (hcell 2 .u64 rfl).1
        have d3 := hk0.cell (hcell 3 .u64 rfl).1
        have hu2 := (hcell 2 .u64 rfl).2
        have hu3 := (hcell 3 .u64 rfl).2
        obtain ⟨x0, hx0⟩ : ∃ x0, V j 0 = x0 := ⟨_, rfl⟩
        obtain ⟨x1, hx1⟩ : ∃ x1, V j 1 = x1 := ⟨_, rfl⟩
        obtain ⟨x2, hx2⟩ : ∃ x2, V j 2 = x2 := ⟨_, rfl⟩
        obtain ⟨x3, hx3⟩ : ∃ x3, V j 3 = x3 := ⟨_, rfl⟩
        rw [hx0] at d0
        rw [hx1] at d1
        rw [hx2] at d2 hu2
        rw [hx3] at d3 hu3
        simp only [List.length_cons, List.length_nil, Nat.reduceAdd, Nat.add_zero] at d0 d1 d2 d3
        rw [addr_part _ _ _ (by omega)] at d1 d2 d3
        clear hx0 hx1 hx2 hx3 hcell hk0
        have cbn := (hs4.blk (b := bc) (cs := #[.int .i64 n]) (e := 3) (by simp)).cell 0
        have lbn := (hs4.blk (b := bc) (cs := #[.int .i64 n]) (e := 3) (by simp)).lt
        simp at cbn
        go_wp2_with fail
        refine wp_mixp (by kernel_rfl) (by kernel_rfl) ?_
        go_wp2
        refine ⟨by kernel_rfl, ?_⟩
        obtain ⟨k, hk, hkn⟩ := place_nat x1 n (by omega) (by omega)
        rw [hk]
        clear hk
        obtain ⟨bx, hbx⟩ : ∃ bx, wr.heap.size = bx := ⟨_, rfl⟩
        have hs5 := (hs4.box (atMem_framed _) (.cells #[.int .i64 x0, .int .i64 k, .int .u64 x2, .int .u64 x3] 41)).keep (atMem_framed _) (Keeps.refl _ _).drew
        have hbxG : bx ∉ own G := fun h => by
          have := hs4.lie.lt (b := bx) (by rw [own_append]; simp [h])
          omega
        rw [hbx] at hs5 ⊢
        obtain ⟨wb2, hwb2⟩ : ∃ wb2, (wr.alloc (.cells #[.int .i64 x0, .int .i64 k, .int .u64 x2, .int .u64 x3] 41)).drew = wb2 := ⟨_, rfl⟩
        rw [hwb2] at hs5 ⊢
        clear hwb2 hs4 d0 d1 d2 d3 cbn lbn
        have kx := hs5.blk (b := bx) (cs := #[.int .i64 x0, .int .i64 k, .int .u64 x2, .int .u64 x3]) (e := 41) (by simp)
        have y0 := kx.cell 0
        have y1 := kx.cell 1
        have y2 := kx.cell 2
        have y3 := kx.cell 3
        simp at y0 y1 y2 y3
        clear kx
        have hkl : k < A.cells.length := by rw [hch.length]; exact hkn
        obtain ⟨i0, hi, hz0, hz1, hz2⟩ := info_parts infoU64
        have hal60 : asked.length ≤ 60 := by have := hch.asked; have := hch.many; omega
        have HS := Lib.hid hs5
        clear hs5
        go_upto_block 2 with fail
        go_cut [12, 13] from 45 to 114 (fun did can wx => ∃ (A' : Ar) (S' : List Nat) (d c : Bool), did = .bool d ∧ can = .bool c ∧ A'.many ≤ j + 1 ∧ (d = true → 1 ≤ A'.many) ∧ (c = true → Chain n A' (asked ++ [x2])) ∧ (c = false → Chain n A' asked) ∧
          stay (AtMem (.pointer (some ⟨q, 0, none⟩))) w [] ((bx, .cells #[.int .i64 x0, .int .i64 k, .int .u64 x2, .int .u64 x3] 41 (0, 0)) :: (G ++ [(ba, .cells #[.slice aa asked.length ac] 38 (0, 0)), (bc, .cells #[.int .i64 n] 3 (0, 0)), (bc + 1, .cells #[.bool false] 4 (0, 0))])) (some A') S' wx)
        case first =>
          by_cases q1 : x0 = 1
          · subst q1
            have C := Load_any (.pointer (some ⟨q, 0, none⟩)) (some A) S3 k wb2 HS.out.mem (fun _ e => by cases e; omega)
            rw [acc_ok A 1 k fLoad hkl] at C
            dsimp only [fLoad] at C
            have C2 := stay_call HS.out C
            have hch2 := hch.does (by omega) 1 (by omega) k hkn (A.val k) true x2 (by simp) (by simp)
            have HCH := Lib.hid hch2
            clear hch2 C
            go_wp2_with (go_at_call 22; refine C2.mono ?_; clear C2; rintro e w6 ⟨rfl, S6, hs6⟩; have HS6 := Lib.hid hs6; clear hs6)
            go_meet
            exact ⟨_, S6, _, true, rfl, rfl, by rw [Ar.does_many']; omega, fun _ => by rw [Ar.does_many']; omega, fun _ => HCH.out, by simp, HS6.out⟩
          by_cases q2 : x0 = 2
          · subst q2
            have hb2 : 0 ≤ x2 ∧ x2 < 18446744073709551616 := by
              simp [Lit.wf, IntKind.min, IntKind.max, IntKind.bits, IntKind.signed] at hu2
              omega
            have HB2 := Lib.hid hb2
            clear hb2
            have C := Store_any (.pointer (some ⟨q, 0, none⟩)) (some A) S3 k x2 wb2 HS.out.mem (fun _ e => by cases e; omega) HB2.out
            rw [acc_ok A 2 k (fStore x2) hkl] at C
            dsimp only [fStore] at C
            have C2 := stay_call HS.out C
            have hch2 := hch.does (by omega) 2 (by omega) k hkn x2 true x2 (by simp) (by simp)
            have HCH := Lib.hid hch2
            clear hch2 C
            go_wp2_with (go_at_call 23; refine C2.mono ?_; clear C2; rintro e w6 ⟨rfl, S6, hs6⟩; have HS6 := Lib.hid hs6; clear hs6)
            go_meet
            exact ⟨_, S6, _, true, rfl, rfl, by rw [Ar.does_many']; omega, fun _ => by rw [Ar.does_many']; omega, fun _ => HCH.out, by simp, HS6.out⟩
          by_cases q3 : x0 = 3
          · subst q3
            have hb3 : 0 ≤ x3 ∧ x3 < 18446744073709551616 := by
              simp [Lit.wf, IntKind.min, IntKind.max, IntKind.bits, IntKind.signed] at hu3
              omega
            have HB3 := Lib.hid hb3
            clear hb3
            have C := Swap_any (.pointer (some ⟨q, 0, none⟩)) (some A) S3 k x2 x3 wb2 HS.out.mem (fun _ e => by cases e; omega) HB3.out
            rw [acc_ok A 3 k (fSwap x2 x3) hkl] at C
            dsimp only [fSwap] at C
            have C2 := stay_call HS.out C
            have hch2 := hch.does (by omega) 3 (by omega) k hkn (if A.val k = x2 then x3 else A.val k) (decide (A.val k = x2)) x2 (by by_cases hv : A.val k = x2 <;> simp [hv]) (by by_cases hv : A.val k = x2 <;> simp [hv])
            have HCH := Lib.hid hch2
            clear hch2 C
            go_wp2_with (go_at_call 24; refine C2.mono ?_; clear C2; rintro e w6 ⟨rfl, S6, hs6⟩; have HS6 := Lib.hid hs6; clear hs6)
            go_meet
            exact ⟨_, S6, _, true, rfl, rfl, by rw [Ar.does_many']; omega, fun _ => by rw [Ar.does_many']; omega, fun _ => HCH.out, by simp, HS6.out⟩
          by_cases q4 : x0 = 4
          · subst q4
            have hb3 : 0 ≤ x3 ∧ x3 < 18446744073709551616 := by
              simp [Lit.wf, IntKind.min, IntKind.max, IntKind.bits, IntKind.signed] at hu3
              omega
            have HB3 := Lib.hid hb3
            clear hb3
            have C := Swap_any (.pointer (some ⟨q, 0, none⟩)) (some A) S3 k x2 x3 wb2 HS.out.mem (fun _ e => by cases e; omega) HB3.out
            rw [acc_ok A 3 k (fSwap x2 x3) hkl] at C
            dsimp only [fSwap] at C
            have C2 := stay_call HS.out C
            have hch2 := hch.does (by omega) 3 (by omega) k hkn (if A.val k = x2 then x3 else A.val k) (decide (A.val k = x2)) x2 (by by_cases hv : A.val k = x2 <;> simp [hv]) (by by_cases hv : A.val k = x2 <;> simp [hv])
            have HCH := Lib.hid hch2
            clear hch2 C
            go_wp2_with (go_at_call 24; refine C2.mono ?_; clear C2; rintro e w6 ⟨rfl, S6, hs6⟩; have HS6 := Lib.hid hs6; clear hs6)
            go_meet
            exact ⟨_, S6, _, true, rfl, rfl, by rw [Ar.does_many']; omega, fun _ => by rw [Ar.does_many']; omega, fun _ => HCH.out, by simp, HS6.out⟩
          by_cases q5 : x0 = 5
          · subst q5
            have C := Add_any (.pointer (some ⟨q, 0, none⟩)) (some A) S3 k x2 wb2 HS.out.mem (fun _ e => by cases e; omega)
            rw [acc_ok A 4 k (fAdd x2) hkl] at C
            dsimp only [fAdd] at C
            have C2 := stay_call HS.out C
            have hch2 := hch.does (by omega) 4 (by omega) k hkn (addU (A.val k) x2) true x2 (by simp) (by simp)
            have HCH := Lib.hid hch2
            clear hch2 C
            go_wp2_with (go_at_call 25; refine C2.mono ?_; clear C2; rintro e w6 ⟨rfl, S6, hs6⟩; have HS6 := Lib.hid hs6; clear hs6)
            go_meet
            exact ⟨_, S6, _, true, rfl, rfl, by rw [Ar.does_many']; omega, fun _ => by rw [Ar.does_many']; omega, fun _ => HCH.out, by simp, HS6.out⟩
          go_wp2_with fail
          go_meet
          exact ⟨A, S3, false, false, rfl, rfl, by omega, by simp, by simp, fun _ => hch, HS.out⟩
        case rest =>
          obtain ⟨A', S6, d, c, rfl, rfl, hm6, hd6, hc1, hc0, hs6⟩ := hcut
          clear HS hch hmany e0 e1 hkl y0 y1 y2 y3
          have ka := hs6.blk (b := ba) (cs := #[.slice aa asked.length ac]) (e := 38) (by simp)
          have kx := hs6.blk (b := bx) (cs := #[.int .i64 x0, .int .i64 k, .int .u64 x2, .int .u64 x3]) (e := 41) (by simp)
          have la := ka.lt
          have lx := kx.lt
          have a0 := ka.cell 0
          have f0 := ka.frozen 0
          have y2 := kx.cell 2
          simp at a0 y2
          have HO := Lib.hid (hown wc (fun y hy => hs6.lie y (by simp [hy])))
          have HS6 := Lib.hid hs6
          clear ka kx hs6
          go_upto_if 103 with fail
          go_cut [] from 45 to 114 (fun wx => ∃ (asked' : List Int) (aa' : Option Addr) (ac' : Nat) (G' : List (Nat × Obj)), Chain n A' asked' ∧
            stay (AtMem (.pointer (some ⟨q, 0, none⟩))) w [] (G' ++ [(ba, .cells #[.slice aa' asked'.length ac'] 38 (0, 0)), (bc, .cells #[.int .i64 n] 3 (0, 0)), (bc + 1, .cells #[.bool false] 4 (0, 0))]) (some A') S6 wx ∧
            own G' = (Value.slice aa' asked'.length ac').ownBlock.toList ∧ (∀ W2, Lie W2 G' → W2.ownsRow 0 39 1 (.slice aa' asked'.length ac') asked'.length (asked'.map (Value.int .u64))) ∧ (ba ∉ own G' ∧ bc ∉ own G' ∧ bc + 1 ∉ own G'))
          case first =>
            cases c with
            | false =>
              replace hc0 := Lib.hid (hc0 rfl)
              clear hc1
              go_wp2_with fail
              go_meet
              exact ⟨asked, aa, ac, G, hc0.out, HS6.out.sub (fun y hy => List.mem_cons_of_mem _ hy), hG, hown, hnG⟩
            | true =>
              replace hc1 := Lib.hid (hc1 rfl)
              clear hc0
              go_wp2_with (at_builtin; go_must (refine wpList_append_own_at _ rfl (.tmp 104) (.tmp 107) 38 rfl 0 39 i0 (.int .u64 0) 1 8 Try.underlying38 hi hz0 hz1 hz2 rfl (by decide) _ _ _ rfl (HO.out.alloc _) ⟨_, 0, none⟩ 1 1 [.int .u64 x2] rfl rfl (cell_one_new _ _ _) (by simp [Value.oneCell']) (by unfold maxLen; omega) (by omega) (Nat.zero_le _) ?_); intro v' w7 hown7 hgrow7 _ hat7; obtain ⟨G7, hG7, hs7, hown7', hd7⟩ := stay.row_grown (atMem_framed _) (((HS6.out.sub (G := G ++ [(bx, .cells #[.int .i64 x0, .int .i64 k, .int .u64 x2, .int .u64 x3] 41 (0, 0)), (ba, .cells #[.slice aa asked.length ac] 38 (0, 0)), (bc, .cells #[.int .i64 n] 3 (0, 0)), (bc + 1, .cells #[.bool false] 4 (0, 0))]) (fun y hy => mem_mid hy)).keep (atMem_framed _) ((Keeps.refl _ _).alloc _))) hG (by simp only [own, List.map_cons, List.map_nil, List.mem_cons, List.not_mem_nil, or_false]; rintro y (rfl | rfl | rfl | rfl) <;> first | exact hbxG | exact hnG.1 | exact hnG.2.1 | exact hnG.2.2) hgrow7 hown7 hat7; obtain ⟨a7, c7, rfl, _, _⟩ := ownsRow_form hown7; have k7 := hs7.blk (b := ba) (cs := #[.slice aa asked.length ac]) (e := 38) (by simp); have a7c := k7.cell 0; have f7c := k7.frozen 0; have l7 := k7.lt; simp at a7c; have HS7 := Lib.hid hs7; have HO7 := Lib.hid hown7'; clear hown7 hgrow7 hat7 k7 hs7 hown7')
              go_meet
              have h8 := HS7.out.sub (G := G7 ++ [(ba, .cells #[.slice aa asked.length ac] 38 (0, 0)), (bc, .cells #[.int .i64 n] 3 (0, 0)), (bc + 1, .cells #[.bool false] 4 (0, 0))]) (fun y hy => mem_skip hy)
              have hna : ba ∉ own G7 := hd7 ba (by simp [own])
              have h9 := asked_set (M' := atMem_framed _) h8 hna hbane (.slice a7 (asked.length + 1) c7)
              exact ⟨asked ++ [x2], a7, c7, G7, hc1.out, by simpa using h9, by simpa using hG7, fun W2 h2 => by simpa using HO7.out W2 h2, hna, hd7 bc (by simp [own]), hd7 (bc + 1) (by simp [own])⟩
          case rest =>
            obtain ⟨asked', aa', ac', G', hch', hs8, hG', hown', hnG'⟩ := hcut
            clear HO HS6 hc1 hc0 hnG hown hG la lx a0 f0 y2
            cases d with
            | false =>
              go_wp2_with fail
              go_roundw
              case rel => exact ⟨j + 1, A', asked', S6, aa', ac', G', by simp, by omega, hch', hm6, hs8, hG', hown', hnG'⟩
              case measure => simp [intOf]; omega
            | true =>
              have hd6 := hd6 rfl
              go_wp2_with (go_at_call 26; refine (Count_any hs8.mem).mono ?_; rintro e w' ⟨rfl, rfl⟩; simp only [countOf])
              go_roundw
              case rel => exact ⟨j + 1, A', asked', S6, aa', ac', G', by simp, by omega, hch', hm6, hs8, hG', hown', hnG'⟩
              case measure => simp [intOf]; omega
      · have hjn : j = n1 := by omega
        subst hjn
        go_wp2_with fail
        go_meet
        exact ⟨A, asked, S3, aa, ac, G, hch, by omega, hs4, hG, hown, hnG⟩
  case rest =>
    obtain ⟨A, asked, S3, aa, ac, G, hch, hmany, hs4, hG, hown, hnG⟩ := hcut
    clear hs3 HR hmx
    have kb := hs4.blk (b := bc) (cs := #[.int .i64 n]) (e := 3) (by simp)
    have lb := kb.lt
    have cb := kb.cell 0
    simp at cb
    clear kb
    obtain ⟨i0, hi, hz0, hz1, hz2⟩ := info_parts infoU64
    have HS := Lib.hid hs4
    clear hs4
    go_wp2_with (at_make; refine wpList_make_full _ rfl (.tmp 115) (.tmp 115) 38 rfl 0 39 i0 (.int .u64 0) 1 Try.underlying38 hi hz0 hz1 .i64 .i64 n n n rfl rfl rfl rfl (by rw [hz2]; omega) (by unfold maxLen; omega) (Nat.zero_le _) ?_)
    intro w5 hrow hgrow
    have hz : (madeCells #[Value.int .u64 0] n).toList = (zeros n).map (Value.int .u64) := (toList_madeCells_one _ _).trans (by simp [zeros])
    rw [hz] at hrow
    obtain ⟨br, hbr⟩ : ∃ br, wc.heap.size = br := ⟨_, rfl⟩
    have hs5 := HS.out.new (atMem_framed _) ((Keeps.refl Nothing wc).grown hgrow (fun k hk => by cases hk)) (Nat.le_refl _) (row_full hrow)
    have hnr : br ∉ own (G ++ [(ba, .cells #[.slice aa asked.length ac] 38 (0, 0)), (bc, .cells #[.int .i64 n] 3 (0, 0)), (bc + 1, .cells #[.bool false] 4 (0, 0))]) := fun h => by
      have := HS.out.lie.lt h
      omega
    rw [hbr] at hs5 ⊢
    clear HS hrow hgrow hz
    go_upto_region 28 with fail
    obtain ⟨bh, hbh⟩ : ∃ bh, w5.heap.size = bh := ⟨_, rfl⟩
    have hs6 := hs5.box (atMem_framed _) (.cells #[.slice (some ⟨br, 0, none⟩) n n] 38)
    have hnh : bh ∉ own ((br, Obj.cells ((zeros n).map (Value.int .u64)).toArray 39 (0, 0)) :: (G ++ [(ba, .cells #[.slice aa asked.length ac] 38 (0, 0)), (bc, .cells #[.int .i64 n] 3 (0, 0)), (bc + 1, .cells #[.bool false] 4 (0, 0))])) := fun h => by
      have := hs5.lie.lt h
      omega
    rw [hbh] at hs6 ⊢
    obtain ⟨w6, hw6⟩ : ∃ w6, w5.alloc (.cells #[.slice (some ⟨br, 0, none⟩) n n] 38) = w6 := ⟨_, rfl⟩
    rw [hw6] at hs6 ⊢
    have hbr6 : br < w6.heap.size := hs6.lie.lt (by simp [own])
    clear hs5 hw6 hbh hbr
    have hmany' : ∀ B, some A = some B → B.many ≤ 1024 := fun B e => by cases e; omega
    go_upto_region 29 with (go_at_call 27; refine (Log_stay hs6 (atMem_framed _) hmany').mono ?_; rintro e w7 ⟨bl, bf, u, G2, rfl, hs7, hlog, hnew⟩; clear hs6)
    have ka := hs7.blk (b := ba) (cs := #[.slice aa asked.length ac]) (e := 38) (by simp)
    have a0 := ka.cell 0
    simp at a0
    have hcnt : (A.many : Int) = asked.length := by have := hch.asked; have := hch.many; omega
    have hal60 : asked.length ≤ 60 := by have := hch.asked; have := hch.many; omega
    have hwr : ((asked.length : Nat) : Int) < 18446744073709551616 := by omega
    go_quiet (first
      | (go_at_call 28; refine Calls.quiet_of_same ((num01_ok _ _).mono fun _ _ h => ⟨h.1, h.2.symm⟩))
      | (go_at_call 26; refine Calls.quiet_of_same ((Count_any (hs7.mem.keep ((Keeps.refl _ _).drewN _))).mono fun _ _ h => ⟨h.1.trans (congrArg (fun z => Ending.returned (Value.int .u64 z)) hcnt), h.2.symm⟩)))
    obtain ⟨w8, hw8⟩ : ∃ w8, w7.drewN nq = w8 := ⟨_, rfl⟩
    have hs8 := hs7.keep (atMem_framed _) ((Keeps.refl _ _).drewN nq)
    rw [hw8] at hs8 ⊢
    clear hw8 a0 ka
    replace hs8 := hs8.sub (G := (br, .cells ((zeros n).map (Value.int .u64)).toArray 39 (0, 0)) :: (G2 ++ (bh, .cells #[.slice (some ⟨br, 0, none⟩) n n] 38 (0, 0)) :: (G ++ [(ba, .cells #[.slice aa asked.length ac] 38 (0, 0)), (bc, .cells #[.int .i64 n] 3 (0, 0)), (bc + 1, .cells #[.bool false] 4 (0, 0))]))) (by intro y hy; simp only [List.mem_append, List.mem_cons, List.not_mem_nil, or_false] at hy ⊢; grind)
    have hbrR : br ∉ own (G2 ++ (bh, .cells #[.slice (some ⟨br, 0, none⟩) n n] 38 (0, 0)) :: (G ++ [(ba, .cells #[.slice aa asked.length ac] 38 (0, 0)), (bc, .cells #[.int .i64 n] 3 (0, 0)), (bc + 1, .cells #[.bool false] 4 (0, 0))])) := by
      intro h
      simp only [own, List.map_append, List.map_cons, List.mem_append, List.mem_cons] at h hnr hnh
      have h1 : ∀ k ∈ own G2, w6.heap.size ≤ k := hnew
      have h2 : br < w6.heap.size := hbr6
      rcases h with h | h | h
      · have := h1 br h; omega
      · exact hnh (.inl h.symm)
      · exact hnr h
    go_upto_block 3 with fail
    obtain ⟨bn, hbn⟩ : ∃ bn, w8.heap.size = bn := ⟨_, rfl⟩
    have hs9 := hs8.box (atMem_framed _) (.cells #[.int .i64 0] 3)
    have hbnR : bn ∉ own ((br, Obj.cells ((zeros n).map (Value.int .u64)).toArray 39 (0, 0)) :: (G2 ++ (bh, .cells #[.slice (some ⟨br, 0, none⟩) n n] 38 (0, 0)) :: (G ++ [(ba, .cells #[.slice aa asked.length ac] 38 (0, 0)), (bc, .cells #[.int .i64 n] 3 (0, 0)), (bc + 1, .cells #[.bool false] 4 (0, 0))]))) := fun h => by
      have := hs8.lie.lt h
      omega
    rw [hbn] at hs9 ⊢
    obtain ⟨w9, hw9⟩ : ∃ w9, w8.alloc (.cells #[.int .i64 0] 3) = w9 := ⟨_, rfl⟩
    rw [hw9] at hs9 ⊢
    clear hs8 hs7 hw9 hbn
    go_wp2_with fail
    have hbnR1 : bn ∉ own (G2 ++ (bh, .cells #[.slice (some ⟨br, 0, none⟩) n n] 38 (0, 0)) :: (G ++ [(ba, .cells #[.slice aa asked.length ac] 38 (0, 0)), (bc, .cells #[.int .i64 n] 3 (0, 0)), (bc + 1, .cells #[.bool false] 4 (0, 0))])) := fun h => hbnR (by simp only [own, List.map_cons, List.mem_cons]; exact .inr h)
    have hbnbr : bn ≠ br := fun h => hbnR (by simp [own, h])
    have hs10 : stay (AtMem (.pointer (some ⟨q, 0, none⟩))) w [] ((bn, Obj.cells #[.int .i64 (([] : List Acc).length : Nat)] 3 (0, 0)) :: (br, Obj.cells ((replay n []).map (Value.int .u64)).toArray 39 (0, 0)) :: (G2 ++ (bh, .cells #[.slice (some ⟨br, 0, none⟩) n n] 38 (0, 0)) :: (G ++ [(ba, .cells #[.slice aa asked.length ac] 38 (0, 0)), (bc, .cells #[.int .i64 n] 3 (0, 0)), (bc + 1, .cells #[.bool false] 4 (0, 0))]))) (some A) S3 w9 := hs9
    have hq2 := Log1_seq (M := (AtMem (.pointer (some ⟨q, 0, none⟩)))) (atMem_framed _) (some A) bl bf u 0 A.ring (by have := hch.many; omega) (by omega)
    refine wp_range_seqB (atMem_framed (.pointer (some ⟨q, 0, none⟩))) hq2 rfl (enters_of Try.func65 (by kernel_rfl) rfl) (fun _ _ => rfl)
      (fun X S U pre W => inner (base (AtMem (.pointer (some ⟨q, 0, none⟩))) w []) ((bn, Obj.cells #[.int .i64 (pre.length : Nat)] 3 (0, 0)) :: (br, Obj.cells ((replay n pre).map (Value.int .u64)).toArray 39 (0, 0)) :: (G2 ++ (bh, .cells #[.slice (some ⟨br, 0, none⟩) n n] 38 (0, 0)) :: (G ++ [(ba, .cells #[.slice aa asked.length ac] 38 (0, 0)), (bc, .cells #[.int .i64 n] 3 (0, 0)), (bc + 1, .cells #[.bool false] 4 (0, 0))]))) X S U pre W) (fun _ _ _ _ _ _ => False)
      ⟨fun h => (inner_rides base_rides _).mem h, fun h hm ht => (inner_rides base_rides _).turn h hm ht⟩ (fun _ => ⟨fun h => h.elim, fun h => h.elim⟩)
      (fun h => hlog _ fun y hy => h.2.1 y (by simp [hy])) _ (hs10.to_loop []) ?round ?done ?stop
    case stop =>
      intro c pre x S3 U3 W4 _ h
      exact h.elim
    case round =>
      rename_i Q1 K1 A1
      clear A1
      intro l2 m x S4 U4 pre b W3 hpre hj hl hlU hlS
      have hlen := hpre.length_le
      simp only [List.length_append, List.length_cons, List.length_nil] at hlen
      have hb : A.ring[pre.length]? = some b := by
        obtain ⟨t, ht⟩ := hpre
        rw [← ht]; simp
      have htk : A.ring.take pre.length = pre := by
        obtain ⟨t, ht⟩ := hpre
        rw [← ht, List.append_assoc, List.take_left']
        rfl
      have hfit := hch.each _ _ hb
      rw [htk] at hfit
      have hk : Keeps Nothing W3 (W3.alloc (.cells b.enc.toArray 54)) := (Keeps.refl _ _).alloc _
      have hj1 := (inner_rides base_rides _).turn hj ((atMem_framed _).keep hj.1.1 fun k hk' => hk.block k ((atMem_framed _).lt hj.1.1 k hk') id) ⟨hk.nothing, fun _ h => .inl h⟩
      have hbx : Blk (W3.alloc (.cells b.enc.toArray 54)) W3.heap.size b.enc.toArray 54 := Blk.new _ _ _
      have HJ := Lib.hid hj1
      have HX := Lib.hid hbx
      have HK := Lib.hid hk
      clear hj1 hbx hk hj
      simp only [Acc.enc] at HJ HX HK ⊢
      have hrl : A.ring.length = asked.length := hch.asked.symm
      have hal : asked.length ≤ 60 := hal60
      clear hq2 hs9 hs10 htk hpre hlog hnew
      gi_wp2
      refine ⟨HJ.out, ⟨HK.out.size, fun k _ hlt => HK.out.block k hlt id⟩, ?_⟩
      intro o hj2
      have hbx := HX.out.put (Nat.ne_of_gt hl) o
      obtain ⟨W4, hW4⟩ : ∃ W4, ((W3.alloc (.cells #[.int .i64 b.op, .int .i64 b.at_, .int .u64 b.old, .int .u64 b.new, .bool b.did] 54)).putObj l2 o) = W4 := ⟨_, rfl⟩
      rw [hW4] at hbx hj2 ⊢
      clear hW4
      obtain ⟨op, at_, old, new, did⟩ := b
      obtain ⟨h1, h2, h3, h4, h5, h6⟩ := hfit
      dsimp only at h1 h2 h3 h4 h5 h6 hbx ⊢
      obtain ⟨k, rfl⟩ : ∃ k : Nat, at_ = k := ⟨at_.toNat, by omega⟩
      have hkn : k < n := by omega
      rw [show ((k : Nat) : Int).toNat = k from rfl] at h3
      have x0 := hbx.cell 0
      have x1 := hbx.cell 1
      have x2 := hbx.cell 2
      have x3 := hbx.cell 3
      have x4 := hbx.cell 4
      simp at x0 x1 x2 x3 x4
      have kn : Blk W4 bn #[.int .i64 (pre.length : Nat)] 3 := hj2.2.1 (bn, _) (by simp)
      have kr : Blk W4 br ((replay n pre).map (Value.int .u64)).toArray 39 := hj2.2.1 (br, _) (by simp)
      have kh : Blk W4 bh #[.slice (some ⟨br, 0, none⟩) n n] 38 := hj2.2.1 (bh, _) (by simp)
      have ka : Blk W4 ba #[.slice aa asked.length ac] 38 := hj2.2.1 (ba, _) (by simp)
      have kc : Blk W4 bc #[.int .i64 n] 3 := hj2.2.1 (bc, _) (by simp)
      have kg := hown W4 fun y hy => hj2.2.1 y (by simp [hy])
      have n0 := kn.cell 0
      have r0 := kr.cell k
      have a0 := ka.cell 0
      have b0 := kh.cell 0
      have c0 := kc.cell 0
      have hql : (replay n pre).length = n := replay_length n pre
      have hrk : ((replay n pre).map (Value.int .u64)).toArray[k]? = some (.int .u64 old) := by
        rw [h3]; simp [hql, hkn]
      rw [hrk] at r0
      simp at n0 a0 b0 c0 r0
      have hkd : Keeps Nothing W4 W4.drew := (Keeps.refl _ _).drew
      have hj3 := (inner_rides base_rides _).turn hj2 ((atMem_framed _).keep hj2.1.1 fun k hk' => hkd.block k ((atMem_framed _).lt hj2.1.1 k hk') id) ⟨hkd.nothing, fun _ h => .inl h⟩
      have hfin := two_set (atMem_framed _) hj3 hbnR1 hbnbr hbrR k (.int .u64 new) (.int .i64 ((pre.length : Int) + 1)) (pre ++ [⟨op, k, old, new, did⟩])
      have e1 : ((replay n pre).map (Value.int .u64)).set k (.int .u64 new) = (replay n (pre ++ [⟨op, k, old, new, did⟩])).map (Value.int .u64) := by rw [replay_snoc, List.map_set]; rfl
      have e2 : (pre.length : Int) + 1 = ((pre ++ [(⟨op, k, old, new, did⟩ : Acc)]).length : Nat) := by simp
      rw [e1] at hfin
      have HFIN := Lib.hid hfin
      have E2 := Lib.hid e2
      clear hfin e1 e2
      obtain ⟨g, rfl⟩ : ∃ g, aa = some ⟨g, 0, none⟩ := by
        rcases kg.2 with ⟨hn, h0⟩ | ⟨g, cap', cur, hv, _⟩
        · omega
        · cases hv; exact ⟨g, rfl⟩
      obtain ⟨qv, hqv⟩ : ∃ qv, asked[pre.length]?.getD 0 = qv := ⟨_, rfl⟩
      have q0 : W4.cell? ⟨g, pre.length, none⟩ = some (.int .u64 qv) := by
        rw [kg.cellAt pre.length (by omega)]
        rw [← hqv]
        have : pre.length < asked.length := by omega
        simp [this]
      rw [hqv] at h4
      have rf := kr.frozen k
      have nf := kn.frozen 0
      have lr := kr.lt
      have ln := kn.lt
      have hpl : pre.length < asked.length := by omega
      have hpl1 : ¬ asked.length ≤ pre.length := by omega
      have hkn1 : ¬ n ≤ k := by omega
      have hk0 : ¬ ((k : Nat) : Int) < 0 := by omega
      have n1 := (kn.other (a := ⟨br, k, none⟩) hbnbr (.int .u64 new)).cell 0
      have nf1 := (kn.other (a := ⟨br, k, none⟩) hbnbr (.int .u64 new)).frozen 0
      simp at n1
      clear hj2 hj3 hkd kn kr kh ka kc kg hbx HJ HX HK hqv hrk h3 hrl hlen hb
      clear hz0 hz1 hz2 hi e0 e1 hcnt hwr kb0 hn hlo hhi hmany hmany' hnG cb hbane hbnR hbnR1 hbnbr hbrR hch
      gi_wp2
      rename_i Q2 K2 A2
      have HA2 := Lib.hid A2
      clear A2
      refine wpIn_mixk (by kernel_rfl) (by kernel_rfl) ?_
      intro K3 hK3
      have HK3 := Lib.hid hK3
      clear hK3
      try simp only [List.append_eq, List.cons_append, List.nil_append]
      by_cases ho3 : op = 3
      · subst ho3
        by_cases hov : old = qv
        · subst hov
          obtain rfl : did = true := by rw [h4]; simp
          clear h4 h5 h6 h1 h2
          go_wp2
          have A2 := HA2.out
          refine HK3.out _ _ ⟨by kernel_rfl, ?_⟩
          gi_wp2
          refine ⟨?_, Same.trans ⟨Nat.le_refl _, fun _ _ _ => rfl⟩ HFIN.out.2⟩
          have hf := HFIN.out.1
          dsimp only
          rw [← E2.out]
          exact hf
        · obtain rfl : did = false := by rw [h4]; simp [hov]
          obtain rfl : new = old := h5 (by simp)
          have hov1 : (new == qv) = false := by simp [hov]
          clear h4 h5 h6 h1 h2
          go_wp2
          have A2 := HA2.out
          refine HK3.out _ _ ⟨by kernel_rfl, ?_⟩
          gi_wp2
          refine ⟨?_, Same.trans ⟨Nat.le_refl _, fun _ _ _ => rfl⟩ HFIN.out.2⟩
          have hf := HFIN.out.1
          dsimp only
          rw [← E2.out]
          exact hf
      · obtain rfl : did = true := by rw [h4]; simp [ho3]
        have ho31 : (op == 3) = false := by simp [ho3]
        have ho32 : (op != 3) = true := by simp [ho3]
        by_cases ho1 : op = 1
        · subst ho1
          obtain rfl : new = old := h5 (by simp)
          clear h4 h5 h6 h1 h2
          go_wp2
          have A2 := HA2.out
          refine HK3.out _ _ ⟨by kernel_rfl, ?_⟩
          gi_wp2
          refine ⟨?_, Same.trans ⟨Nat.le_refl _, fun _ _ _ => rfl⟩ HFIN.out.2⟩
          have hf := HFIN.out.1
          dsimp only
          rw [← E2.out]
          exact hf
        · have ho11 : (op == 1) = false := by simp [ho1]
          clear h4 h5 h6 h1 h2
          go_wp2
          have A2 := HA2.out
          refine HK3.out _ _ ⟨by kernel_rfl, ?_⟩
          gi_wp2
          refine ⟨?_, Same.trans ⟨Nat.le_refl _, fun _ _ _ => rfl⟩ HFIN.out.2⟩
          have hf := HFIN.out.1
          dsimp only
          rw [← E2.out]
          exact hf
    case done =>
      intro S4 U4 Wz hj hD hDU hDS
      have hs : stay (AtMem (.pointer (some ⟨q, 0, none⟩))) w [] ((w9.heap.size, .deferred (some [])) :: (bn, Obj.cells #[.int .i64 (A.ring.length : Nat)] 3 (0, 0)) :: (br, Obj.cells ((replay n A.ring).map (Value.int .u64)).toArray 39 (0, 0)) :: (G2 ++ (bh, .cells #[.slice (some ⟨br, 0, none⟩) n n] 38 (0, 0)) :: (G ++ [(ba, .cells #[.slice aa asked.length ac] 38 (0, 0)), (bc, .cells #[.int .i64 n] 3 (0, 0)), (bc + 1, .cells #[.bool false] 4 (0, 0))]))) (some A) S4 Wz := stay.of_loop hj hD hDU hDS
      obtain ⟨D1, hD1⟩ : ∃ D1, w9.heap.size = D1 := ⟨_, rfl⟩
      rw [hD1] at hs ⊢
      have hcl : A.cells = replay n A.ring := hch.cells
      have hrl : A.ring.length = asked.length := hch.asked.symm
      have hql : (replay n A.ring).length = n := replay_length n _
      have hm60 : A.many ≤ 60 := hmany
      obtain ⟨rp, hrp⟩ : ∃ rp, replay n A.ring = rp := ⟨_, rfl⟩
      rw [hrp] at hs hcl hql
      rw [hrl] at hs
      clear hj hD hDU hDS hq2 hs9 hs10 hlog hnew hch hmany hmany' hcnt hwr hrp hrl hz0 hz1 hz2 hi e0 e1 kb0 cb lb hn hown hG hnG hbane hnr hnh hbrR hbnR hbnR1 hbnbr hbr6 hD1
      go_wp2_with fail
      go_loopw [19] (fun i wr => ∃ (j : Nat) (B : Ar) (S' : List Nat), i = .int .i64 j ∧ j ≤ n ∧ B.cells = rp ∧ B.many ≤ 60 + j ∧ stay (AtMem (.pointer (some ⟨q, 0, none⟩))) w [] ((D1, .deferred (some [])) :: (bn, Obj.cells #[.int .i64 (asked.length : Nat)] 3 (0, 0)) :: (br, Obj.cells ((rp).map (Value.int .u64)).toArray 39 (0, 0)) :: (G2 ++ (bh, .cells #[.slice (some ⟨br, 0, none⟩) n n] 38 (0, 0)) :: (G ++ [(ba, .cells #[.slice aa asked.length ac] 38 (0, 0)), (bc, .cells #[.int .i64 n] 3 (0, 0)), (bc + 1, .cells #[.bool false] 4 (0, 0))]))) (some B) S' wr) (fun i _ => (n - intOf i).toNat)
      case atStart => exact ⟨0, A, S4, rfl, by omega, hcl, by omega, hs⟩
      case round =>
        obtain ⟨j, B, S5, rfl, hj, hBc, hBm, hs3⟩ := hrel
        clear hs hcl
        have kc := hs3.blk (b := bc) (cs := #[.int .i64 n]) (e := 3) (by simp)
        have c0 := kc.cell 0
        simp at c0
        clear kc
        by_cases hlt : j < n
        · have hjl : j < B.cells.length := by rw [hBc, hql]; exact hlt
          have hrv : (rp.map (Value.int .u64)).toArray[j]? = some (.int .u64 (B.val j)) := by
            have hjr : j < rp.length := by omega
            simp [Ar.val, hBc, hjr]
          have C := Load_any (.pointer (some ⟨q, 0, none⟩)) (some B) S5 j wr hs3.mem (fun _ e => by cases e; omega)
          rw [acc_ok B 1 j fLoad hjl] at C
          dsimp only [fLoad] at C
          have C2 := stay_call hs3 C
          have hdc : (B.does 1 j (B.val j) true).cells = rp := by
            rw [← hBc]
            simp only [Ar.does, Ar.noted]
            apply List.ext_getElem?
            intro i
            rw [List.getElem?_set]
            split
            · rename_i h
              subst h
              simp [Ar.val, hjl]
            · rfl
          have hdm : (B.does 1 j (B.val j) true).many = B.many + 1 := Ar.does_many' ..
          have HDC := Lib.hid hdc
          have HDM := Lib.hid hdm
          have hjn : ¬ n ≤ j := by omega
          have HRV := Lib.hid hrv
          have HBC := Lib.hid hBc
          clear C hs3 hdc hdm hrv hBc
          obtain ⟨bv, hbv⟩ : ∃ bv, B.val j = bv := ⟨_, rfl⟩
          rw [hbv] at C2 HRV HDC HDM
          clear hbv
          go_wp2_with first
            | (go_at_call 22; refine C2.mono ?_; clear C2; rintro e w6 ⟨rfl, S6, hs6⟩; have kr := hs6.blk (b := br) (cs := (rp.map (Value.int .u64)).toArray) (e := 39) (by simp); have kh := hs6.blk (b := bh) (cs := #[.slice (some ⟨br, 0, none⟩) n n]) (e := 38) (by simp); have r0 := kr.cell j; rw [HRV.out] at r0; have h0 := kh.cell 0; simp at h0 r0; have HS6 := Lib.hid hs6; clear kr kh hs6)
            | (go_at_call 28; refine (num01_ok _ _).mono ?_; rintro e w' ⟨rfl, rfl⟩)
          go_roundw
          case rel => exact ⟨j + 1, B.does 1 j bv true, S6, by simp, by omega, HDC.out, by rw [HDM.out]; omega, HS6.out⟩
          case measure => simp [intOf]; omega
        · have hjn : j = n := by omega
          subst hjn
          have kn := hs3.blk (b := bn) (cs := #[.int .i64 asked.length]) (e := 3) (by simp)
          have ka := hs3.blk (b := ba) (cs := #[.slice aa asked.length ac]) (e := 38) (by simp)
          have n0 := kn.cell 0
          have a0 := ka.cell 0
          simp at n0 a0
          have HS3 := Lib.hid hs3
          clear kn ka hs3 hBc
          go_wp2_with (go_at_call 20; refine (stay_kept (atMem_framed _) HS3.out (works01_ok _)).mono ?_; rintro e w6 ⟨rfl, hs6⟩; have k0 := hs6.blk (b := bc + 1) (cs := #[.bool false]) (e := 4) (by simp); have cr := k0.cell 0; have fr := k0.frozen 0; simp at cr; have HS6 := Lib.hid hs6; clear k0 hs6)
          have hs6 := HS6.out
          have kb : Blk w6 (bc + 1) #[.bool false] 4 := hs6.blk (by simp)
          have kb2 := kb.set 0 (.bool true)
          have k1 : w6.heap[D1]? = some (.deferred (some [])) := hs6.at (by simp)
          have n1 := kb.ne_obj k1 rfl
          have hr := (kb2.shut [D1] (by simp; exact n1)).cell 0
          simp at hr
          refine bodyN_ret (v := .bool true) [D1] rfl ?_ (by simp) (by simp [results, Try.results4, go_sem, hr]) ⟨rfl, ?_⟩
          · simp only [List.mem_cons, List.not_mem_nil, or_false]
            rintro D rfl
            exact (heap_setCell_other w6 ⟨bc + 1, 0, none⟩ _ _ (Ne.symm n1)).trans k1
          · refine Keeps.shut (hs6.nothing.set _ _ (.inr (hs6.own_new (by simp [own])))) _ ?_
            simp only [List.mem_cons, List.not_mem_nil, or_false]
            rintro D rfl
            exact .inr (hs6.own_new (by simp [own]))

end Go.Proofs.Ytejbeioiomjbpaa
