import Derived.Test.YtejbeioiomjbpaaCellNote2
namespace Go.Proofs.Ytejbeioiomjbpaa
open Go.RowKit

set_option maxHeartbeats 400000 in
theorem cbLoad (o a : Int) (w : World) : Calls Try.prog 58 #[.int .u64 o, .int .i64 a] w fun e w' => e = .returned (.tuple #[.int .u64 o, .bool true]) ∧ Keeps Nothing w w' := by
  go_enter Try.func58, Try.ntmps58
  go_wp2
  go_ret2
  exact ⟨rfl, Keeps.refl _ _⟩

set_option maxHeartbeats 400000 in
theorem cbStore (o a : Int) (w : World) : Calls Try.prog 60 #[.int .u64 o, .int .u64 a] w fun e w' => e = .returned (.tuple #[.int .u64 a, .bool true]) ∧ Keeps Nothing w w' := by
  go_enter Try.func60, Try.ntmps60
  go_wp2
  go_ret2
  exact ⟨rfl, Keeps.refl _ _⟩

def addU (o a : Int) : Int := IntKind.u64.wrap (o + a)

set_option maxHeartbeats 400000 in
theorem cbAdd (o a : Int) (w : World) : Calls Try.prog 63 #[.int .u64 o, .int .u64 a] w fun e w' => e = .returned (.tuple #[.int .u64 (addU o a), .bool true]) ∧ Keeps Nothing w w' := by
  go_enter Try.func63, Try.ntmps63
  go_wp2
  go_ret2
  exact ⟨rfl, Keeps.refl _ _⟩

set_option maxHeartbeats 400000 in
theorem cbSwap (o a b : Int) (w : World) : Calls Try.prog 62 #[.int .u64 o, .agg #[.int .u64 a, .int .u64 b]] w fun e w' =>
    e = .returned (.tuple #[.int .u64 (if o = a then b else o), .bool (decide (o = a))]) ∧ Keeps Nothing w w' := by
  by_cases h : o = a
  · have h' : (o != a) = false := by simp [h]
    go_enter Try.func62, Try.ntmps62
    go_wp2
    go_ret2
    exact ⟨rfl, (Keeps.refl _ _).alloc _⟩
  · have h' : (o != a) = true := by simp [h]
    go_enter Try.func62, Try.ntmps62
    go_wp2
    go_ret2
    exact ⟨rfl, (Keeps.refl _ _).alloc _⟩

set_option maxHeartbeats 400000 in
theorem none_live (p : Nat) (m : Int) (hm : 1 ≤ m) (w : World) (hc : w.cell? ⟨p, 3, none⟩ = some (.int .i64 m)) :
    Calls Try.prog 55 #[.pointer (some ⟨p, 0, none⟩)] w fun e w' => e = .returned (.bool false) ∧ w = w' := by
  have h0 : (m == 0) = false := by simp; omega
  go_enter Try.func55, Try.ntmps55
  go_wp2
  go_ret
  exact ⟨rfl, rfl⟩

theorem IsArena.alloc {w : World} {p : Nat} {A : Ar} {S : List Nat} (h : IsArena w p A S) (o : Obj) : IsArena (w.alloc o) p A S :=
  h.keep fun k hk => Below.heap_alloc _ _ _ (h.lt k hk)
theorem IsArena.drew {w : World} {p : Nat} {A : Ar} {S : List Nat} (h : IsArena w p A S) : IsArena w.drew p A S := h
theorem IsArena.other {w : World} {p : Nat} {A : Ar} {S : List Nat} (h : IsArena w p A S) {a : Addr} (ha : a.block ∉ S) (v : Value) : IsArena (w.setCell a v) p A S :=
  h.keep fun k hk => heap_setCell_other _ _ _ _ (fun e => ha (e ▸ hk))

theorem none_ar {w : World} {p : Nat} {A : Ar} {S : List Nat} (h : IsArena w p A S) :
    Calls Try.prog 55 #[.pointer (some ⟨p, 0, none⟩)] w fun e w' => e = .returned (.bool false) ∧ w = w' := by
  obtain ⟨hok, lv, cv, hb, _⟩ := h
  refine none_live p A.most hok.most1 w ?_
  rw [hb.cell]; rfl

/-- No arena: nil, or of the zero value. -/
def NoArena (w : World) (v : Value) : Prop := v = .pointer none ∨ ∃ p v0 v1 v2, v = .pointer (some ⟨p, 0, none⟩) ∧ Blk w p #[v0, v1, v2, .int .i64 0] 69

theorem NoArena.keep {w w' : World} {v : Value} (h : NoArena w v) (hk : Keeps Nothing w w') : NoArena w' v := by
  rcases h with h | ⟨p, v0, v1, v2, rfl, hb⟩
  · exact .inl h
  · exact .inr ⟨p, v0, v1, v2, rfl, hk.blk hb id⟩

set_option maxHeartbeats 400000 in
theorem none_no (v : Value) (w : World) (h : NoArena w v) :
    Calls Try.prog 55 #[v] w fun e w' => e = .returned (.bool true) ∧ w = w' := by
  rcases h with rfl | ⟨p, v0, v1, v2, rfl, hb⟩
  · go_enter Try.func55, Try.ntmps55
    go_wp2
    go_ret
    exact ⟨rfl, rfl⟩
  · have hc := hb.cell 3
    simp at hc
    clear hb
    go_enter Try.func55, Try.ntmps55
    go_wp2
    go_ret
    exact ⟨rfl, rfl⟩

end Go.Proofs.Ytejbeioiomjbpaa
