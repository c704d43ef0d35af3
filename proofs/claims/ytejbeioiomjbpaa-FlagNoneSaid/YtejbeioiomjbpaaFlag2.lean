/-
  Layer 12: what steps may be, and what the flag has behind them.
-/
import Derived.Test.YtejbeioiomjbpaaMixC
import Derived.Test.YtejbeioiomjbpaaCellAny
import Derived.Test.YtejbeioiomjbpaaIter
namespace Go.Proofs.Ytejbeioiomjbpaa
open Go.RowKit

/-- A look at an act. -/
def lookV (step : Int) (o : Bool) (was : Int) (c : Bool) : Value := .agg #[.int .i64 step, .bool o, .int .i64 was, .bool c]

theorem steps1_ok (step was : Int) (o c : Bool) (w : World) : Calls Try.prog 108 #[.agg #[.int .i64 step, .bool o, .int .i64 was, .bool c]] w fun e w' => e = .returned (.bool o) ∧ Keeps Nothing w w' := by
  go_enter Try.func108, Try.ntmps108
  go_wp2
  go_ret
  exact ⟨rfl, (Keeps.refl _ _).alloc _⟩
theorem steps2_ok (step was : Int) (o c : Bool) (w : World) : Calls Try.prog 109 #[.agg #[.int .i64 step, .bool o, .int .i64 was, .bool c]] w fun e w' => e = .returned (.bool (o && c)) ∧ Keeps Nothing w w' := by
  cases o with
  | false =>
    go_enter Try.func109, Try.ntmps109
    go_wp2
    go_ret
    exact ⟨rfl, (Keeps.refl _ _).alloc _⟩
  | true =>
    go_enter Try.func109, Try.ntmps109
    go_wp2
    go_ret
    exact ⟨rfl, (Keeps.refl _ _).alloc _⟩
theorem steps3_ok (step was : Int) (o c : Bool) (w : World) : Calls Try.prog 110 #[.agg #[.int .i64 step, .bool o, .int .i64 was, .bool c]] w fun e w' => e = .returned (.bool true) ∧ Keeps Nothing w w' := by
  go_enter Try.func110, Try.ntmps110
  go_wp2
  go_ret
  exact ⟨rfl, (Keeps.refl _ _).alloc _⟩
theorem steps4_ok (step was : Int) (o c : Bool) (w : World) : Calls Try.prog 112 #[.agg #[.int .i64 step, .bool o, .int .i64 was, .bool c]] w fun e w' => e = .returned (.int .i64 0) ∧ Keeps Nothing w w' := by
  go_enter Try.func112, Try.ntmps112
  go_wp2
  go_ret
  exact ⟨rfl, (Keeps.refl _ _).alloc _⟩
theorem steps5_ok (step was : Int) (o c : Bool) (w : World) : Calls Try.prog 113 #[.agg #[.int .i64 step, .bool o, .int .i64 was, .bool c]] w fun e w' => e = .returned (.int .i64 2) ∧ Keeps Nothing w w' := by
  go_enter Try.func113, Try.ntmps113
  go_wp2
  go_ret
  exact ⟨rfl, (Keeps.refl _ _).alloc _⟩
theorem steps6_ok (step was : Int) (o c : Bool) (w : World) : Calls Try.prog 114 #[.agg #[.int .i64 step, .bool o, .int .i64 was, .bool c]] w fun e w' => e = .returned (.int .i64 was) ∧ Keeps Nothing w w' := by
  go_enter Try.func114, Try.ntmps114
  go_wp2
  go_ret
  exact ⟨rfl, (Keeps.refl _ _).alloc _⟩
theorem by1_ok (s : Int) (b : Nat) (step was : Int) (o c : Bool) (w : World) (hb : Blk w b #[.int .i64 s] 77) : Calls Try.prog 115 #[.agg #[.int .i64 step, .bool o, .int .i64 was, .bool c], .pointer (some ⟨b, 0, none⟩)] w fun e w' =>
    e = .returned (.int .i64 (if was = 0 then s else was)) ∧ Keeps Nothing w w' := by
  have c0 := hb.cell 0
  have l0 := hb.lt
  simp at c0
  clear hb
  by_cases h : was = 0
  · subst h
    go_enter Try.func115, Try.ntmps115
    go_wp2
    go_ret
    exact ⟨rfl, (Keeps.refl _ _).alloc _⟩
  · go_enter Try.func115, Try.ntmps115
    go_wp2
    go_ret
    exact ⟨rfl, (Keeps.refl _ _).alloc _⟩
theorem ends_ok (step was : Int) (o c : Bool) (w : World) : Calls Try.prog 103 #[.agg #[.int .i64 step, .bool o, .int .i64 was, .bool c]] w fun e w' => e = .returned (.bool (step == 2 || step == 4)) ∧ Keeps Nothing w w' := by
  by_cases h : step = 2
  · subst h
    go_enter Try.func103, Try.ntmps103
    go_wp2
    go_ret
    exact ⟨rfl, (Keeps.refl _ _).alloc _⟩
  · have h2 : (step == 2) = false := by simp [h]
    rw [h2]
    go_enter Try.func103, Try.ntmps103
    go_wp2
    go_ret
    exact ⟨rfl, (Keeps.refl _ _).alloc _⟩

theorem by_ok (s : Int) (w : World) : Calls Try.prog 111 #[.int .i64 s] w fun e w' => e = .returned (.func (.func 115) #[] #[.pointer (some ⟨w.heap.size, 0, none⟩)]) ∧ w' = w.alloc (.cells #[.int .i64 s] 77) := by
  go_enter Try.func111, Try.ntmps111
  go_wp2
  go_ret
  exact ⟨rfl, rfl⟩

theorem checkKey_int {P : Program} {w : World} {kt : TypeId} (hk : P.underlying kt = some (.int .i64)) (e : Bool) (n : Nat) (a : Int) : (Instr.checkKey e (n + 1) kt (.int .i64 a)).run P w = .ok () w := by
  unfold Instr.checkKey
  simp [run_underlying hk]

theorem findKey_int {P : Program} {w : World} {kt : TypeId} (hk : P.underlying kt = some (.int .i64)) {a : Int} {es : List MapEntry} {x : Option (Nat × Value)} (hf : Instr.findNow (.int .i64) (.int .i64 a) es 0 = some x) : (Instr.findKey kt (.int .i64 a) es).run P w = .ok x w := by
  unfold Instr.findKey
  simp [run_underlying hk, hf]

theorem run_insert_new {P : Program} {w : World} {t kt et : TypeId} {r : Nat} {es : Array MapEntry} {clock : Nat} {a : Int} {v : Value} (ht : P.underlying t = some (.map kt et)) (hk : P.underlying kt = some (.int .i64))
    (hr : w.heap[r]? = some (.map es clock)) (hf : Instr.findNow (.int .i64) (.int .i64 a) es.toList 0 = some none) :
    (Instr.mapUpdate t (.map (some r)) (.int .i64 a) v).run P w = .ok () (w.putObj r (.map (es.push { key := .int .i64 a, val := v, born := clock }) (clock + 1))) := by
  unfold Instr.mapUpdate
  have h1 : (Instr.checkKey false 10000 kt (.int .i64 a)).run P w = .ok () w := checkKey_int hk false 9999 a
  have h2 := findKey_int (P := P) (w := w) hk hf
  have hg : (getObj r).run P w = .ok (.map es clock) w := by simp [getObj, Sem.run, hr]
  rw [Sem.run_bind, run_underlying ht, Result.andThen_ok]
  simp only [Sem.run_bind, hg, h1, h2, Result.andThen_ok]
  simp [setObj, Sem.run, hr, World.putObj]

theorem run_lookup_is {P : Program} {w : World} {t kt et : TypeId} {r : Nat} {es : Array MapEntry} {clock : Nat} {a : Int} {i : Nat} {v : Value} (ht : P.underlying t = some (.map kt et)) (hk : P.underlying kt = some (.int .i64))
    (hr : w.heap[r]? = some (.map es clock)) (hf : Instr.findNow (.int .i64) (.int .i64 a) es.toList 0 = some (some (i, v))) :
    (Instr.lookup t (.map (some r)) (.int .i64 a) true).run P w = .ok (.tuple #[v, .bool true]) w := by
  unfold Instr.lookup
  have h1 : (Instr.checkKey es.isEmpty 10000 kt (.int .i64 a)).run P w = .ok () w := checkKey_int hk _ 9999 a
  have h2 := findKey_int (P := P) (w := w) hk hf
  have hg : (getObj r).run P w = .ok (.map es clock) w := by simp [getObj, Sem.run, hr]
  rw [Sem.run_bind, run_underlying ht, Result.andThen_ok]
  simp only [Sem.run_bind, hg, h1, h2, Result.andThen_ok, Sem.run_pure]
  rfl

theorem run_lookup_no {P : Program} {w : World} {t kt et : TypeId} {r : Nat} {es : Array MapEntry} {clock : Nat} {a : Int} {v : Value} (ht : P.underlying t = some (.map kt et)) (hk : P.underlying kt = some (.int .i64))
    (hr : w.heap[r]? = some (.map es clock)) (hf : Instr.findNow (.int .i64) (.int .i64 a) es.toList 0 = some none) (hz : (zeroValue et).run P w = .ok v w) :
    (Instr.lookup t (.map (some r)) (.int .i64 a) true).run P w = .ok (.tuple #[v, .bool false]) w := by
  unfold Instr.lookup
  have h1 : (Instr.checkKey es.isEmpty 10000 kt (.int .i64 a)).run P w = .ok () w := checkKey_int hk _ 9999 a
  have h2 := findKey_int (P := P) (w := w) hk hf
  have hg : (getObj r).run P w = .ok (.map es clock) w := by simp [getObj, Sem.run, hr]
  rw [Sem.run_bind, run_underlying ht, Result.andThen_ok]
  simp only [Sem.run_bind, hg, h1, h2, hz, Result.andThen_ok, Sem.run_pure]
  rfl

end Go.Proofs.Ytejbeioiomjbpaa
