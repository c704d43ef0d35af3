/-
  Layer 12: an act, whichever; far, Follows.
-/
import Derived.Test.YtejbeioiomjbpaaFlag41
import Derived.Test.YtejbeioiomjbpaaFlag42
import Derived.Test.YtejbeioiomjbpaaFlag43
import Derived.Test.YtejbeioiomjbpaaFlag44
import Derived.Test.YtejbeioiomjbpaaFlag45
namespace Go.Proofs.Ytejbeioiomjbpaa
open Go.RowKit
attribute [local go_sem] Oper.semAt_some

structure FAct where
  step : Int
  owner : Bool
  was : Int
def FAct.enc (x : FAct) : List Value := [.int .i64 x.step, .bool x.owner, .int .i64 x.was]
def fencs (l : List FAct) : List Value := l.flatMap FAct.enc
@[simp] theorem FAct.enc_length (x : FAct) : x.enc.length = 3 := rfl
theorem fencs_length (l : List FAct) : (fencs l).length = l.length * 3 := by
  induction l with
  | nil => rfl
  | cons x l ih => simp only [fencs, List.flatMap_cons, List.length_append, FAct.enc_length, List.length_cons] at *; omega
theorem fencs_get : ∀ {l : List FAct} {i j : Nat} {x : FAct} {u : Value}, l[i]? = some x → x.enc[j]? = some u → (fencs l)[i * 3 + j]? = some u
  | [], i, j, x, u, hi, _ => by simp at hi
  | y :: l, 0, j, x, u, hi, hj => by
    simp at hi; subst hi
    have hlt : j < y.enc.length := (List.getElem?_eq_some_iff.1 hj).1
    simp only [fencs, List.flatMap_cons]
    rw [List.getElem?_append_left (by omega)]
    simpa using hj
  | y :: l, i + 1, j, x, u, hi, hj => by
    have ih := fencs_get (l := l) (i := i) (j := j) (x := x) (u := u) (by simpa using hi) hj
    simp only [fencs, List.flatMap_cons] at ih ⊢
    rw [List.getElem?_append_right (by simp; omega)]
    rw [show (i + 1) * 3 + j - y.enc.length = i * 3 + j by simp; omega]
    exact ih
theorem rowF_cell {w : World} {b g cap : Nat} {l : List FAct} (h : w.ownsRow b 84 3 (.slice (some ⟨g, 0, none⟩) l.length cap) l.length (fencs l)) {i j : Nat} {x : FAct} {u : Value} (hi : l[i]? = some x) (hj : x.enc[j]? = some u) :
    w.cell? ⟨g, i * 3 + j, none⟩ = some u := by
  have h1 := fencs_get hi hj
  have hlt := (List.getElem?_eq_some_iff.1 h1).1
  rw [fencs_length] at hlt
  rw [h.cellAt _ hlt, h1]

/-- The state behind an act, if it follows. -/
def stepF (s : Int) (c : Bool) (x : FAct) : Option (Int × Bool) := if fits s c x.step x.owner x.was then some (thenF x.step x.was, thenF x.step x.was == 1) else none
/-- The states, as far as the acts follow. -/
def farF (s : Int) (c : Bool) : List FAct → List Int
  | [] => []
  | x :: l => match stepF s c x with | none => [] | some p => p.1 :: farF p.1 p.2 l

theorem does_ok (r : Nat) (s : Int) (c : Bool) (x : FAct) (w : World) (hr : Blk w r #[.int .i64 s, .bool c] 142) :
    Calls Try.prog 78 #[.pointer (some ⟨r, 0, none⟩), .agg #[.int .i64 x.step, .bool x.owner, .int .i64 x.was]] w fun e w' =>
      e = .returned (.bool (stepF s c x).isSome) ∧ Blk w' r #[.int .i64 ((stepF s c x).getD (s, c)).1, .bool ((stepF s c x).getD (s, c)).2] 142 ∧ Keeps (fun k => k = r) w w' := by
  obtain ⟨k, o, was⟩ := x
  dsimp only [stepF]
  have key : ∀ (k : Int), (Calls Try.prog 78 #[.pointer (some ⟨r, 0, none⟩), .agg #[.int .i64 k, .bool o, .int .i64 was]] w fun e w' =>
      e = .returned (.bool (fits s c k o was)) ∧ (fits s c k o was = true → Blk w' r #[.int .i64 (thenF k was), .bool (thenF k was == 1)] 142) ∧ (fits s c k o was = false → Blk w' r #[.int .i64 s, .bool c] 142) ∧ Keeps (fun k => k = r) w w') →
      Calls Try.prog 78 #[.pointer (some ⟨r, 0, none⟩), .agg #[.int .i64 k, .bool o, .int .i64 was]] w fun e w' =>
      e = .returned (.bool (if fits s c k o was then some (thenF k was, thenF k was == 1) else none).isSome) ∧ Blk w' r #[.int .i64 ((if fits s c k o was then some (thenF k was, thenF k was == 1) else none).getD (s, c)).1, .bool ((if fits s c k o was then some (thenF k was, thenF k was == 1) else none).getD (s, c)).2] 142 ∧ Keeps (fun k => k = r) w w' := by
    intro k h
    refine h.mono ?_
    rintro e w' ⟨rfl, h1, h2, h3⟩
    cases hf : fits s c k o was with
    | true => exact ⟨by simp, by simpa using h1 hf, h3⟩
    | false => exact ⟨by simp, by simpa using h2 hf, h3⟩
  refine key k ?_
  by_cases q1 : k = 1
  · subst q1; exact does1_ok r s was c o w hr
  by_cases q2 : k = 2
  · subst q2; exact does2_ok r s was c o w hr
  by_cases q3 : k = 3
  · subst q3; exact does3_ok r s was c o w hr
  by_cases q4 : k = 4
  · subst q4; exact does4_ok r s was c o w hr
  by_cases q5 : k = 5
  · subst q5; exact does5_ok r s was c o w hr
  have hk : k < 1 ∨ 5 < k := by omega
  have hf : fits s c k o was = false := by
    have : decide (1 ≤ k ∧ k ≤ 5) = false := by simp; omega
    simp only [fits, this, Bool.false_and]
  refine (does0_ok r s was k c o w hr hk).mono ?_
  rintro e w' ⟨rfl, h1, h2⟩
  exact ⟨by rw [hf], by simp [hf], fun _ => h1, h2⟩

theorem farF_cons (s : Int) (c : Bool) (x : FAct) (l : List FAct) : farF s c (x :: l) = match stepF s c x with | none => [] | some p => p.1 :: farF p.1 p.2 l := rfl

theorem farF_le (s : Int) (c : Bool) (l : List FAct) : (farF s c l).length ≤ l.length := by
  induction l generalizing s c with
  | nil => simp [farF]
  | cons x l ih =>
    unfold farF
    split
    · simp
    · simp; exact ih _ _

set_option maxRecDepth 100000 in
set_option maxHeartbeats 1000000 in
theorem farDoes_ok (r : Nat) (s : Int) (c : Bool) (l : List FAct) (v : Value) (w : World) (hrow : w.ownsRow 0 84 3 v l.length (fencs l)) (hr : Blk w r #[.int .i64 s, .bool c] 142) (hne : v.ownBlock ≠ some r) (hl : l.length ≤ 65536) :
    Calls Try.prog 77 #[.func (.func 78) #[.pointer (some ⟨r, 0, none⟩)] #[], v] w fun e w' => e = .returned (.int .i64 (farF s c l).length) ∧ Keeps (fun k => k = r) w w' := by
  obtain ⟨a, cap, rfl, _, _⟩ := ownsRow_form hrow
  have HROW := Lib.hid hrow
  have HR := Lib.hid hr
  have HNE := Lib.hid hne
  clear hrow hr hne
  go_enter Try.func77, Try.ntmps77
  go_wp2
  go_loopw [9] (fun i wr => ∃ (j : Nat) (sj : Int) (cj : Bool), i = .int .i64 j ∧ j ≤ l.length ∧ (farF s c l).length = j + (farF sj cj (l.drop j)).length ∧ Blk wr r #[.int .i64 sj, .bool cj] 142 ∧ Keeps (fun k => k = r) w wr) (fun i _ => (l.length - intOf i).toNat)
  case atStart => exact ⟨0, s, c, rfl, by omega, by simp, HR.out, Keeps.refl _ _⟩
  case round =>
    obtain ⟨j, sj, cj, rfl, hj, hlen, hb, hk⟩ := hrel
    by_cases hlt : j < l.length
    · obtain ⟨x, hx⟩ : ∃ x, l[j]? = some x := ⟨_, List.getElem?_eq_getElem hlt⟩
      have hrow := ownsRow_kept HROW.out fun k hk' => hk.block k (by obtain ⟨cs, hcs⟩ := ownsRow_blk HROW.out hk'; exact hcs.lt) (by rintro rfl; exact HNE.out hk')
      obtain ⟨g, rfl⟩ : ∃ g, a = some ⟨g, 0, none⟩ := by
        rcases hrow.2 with ⟨hn, h0⟩ | ⟨g, cap', cur, hv, _⟩
        · omega
        · cases hv; exact ⟨g, rfl⟩
      have d0 : wr.cell? ⟨g, j * 3, none⟩ = some (.int .i64 x.step) := rowF_cell hrow (j := 0) hx rfl
      have d1 : wr.cell? ⟨g, j * 3 + 1, none⟩ = some (.bool x.owner) := rowF_cell hrow (j := 1) hx rfl
      have d2 : wr.cell? ⟨g, j * 3 + 2, none⟩ = some (.int .i64 x.was) := rowF_cell hrow (j := 2) hx rfl
      have hdrop : l.drop j = x :: l.drop (j + 1) := by
        rw [List.drop_eq_getElem_cons hlt]
        rw [List.getElem?_eq_getElem hlt] at hx
        cases hx; rfl
      rw [hdrop] at hlen
      rw [farF_cons] at hlen
      have C := does_ok r sj cj x (wr.alloc (.cells #[.int .i64 x.step, .bool x.owner, .int .i64 x.was] 84)) (hb.alloc _)
      have hk1 := hk.alloc (.cells #[.int .i64 x.step, .bool x.owner, .int .i64 x.was] 84)
      have HK1 := Lib.hid hk1
      have hrl : r < w.heap.size := HR.out.lt
      cases hst : stepF sj cj x with
      | none =>
        rw [hst] at hlen C
        dsimp only [List.length_nil] at hlen
        simp only [Option.isSome_none, Option.getD_none] at C
        have HLEN := Lib.hid hlen
        clear hlen hk1 hb hk hrow hdrop hst
        go_wp2_with (go_at_call 78; refine C.mono ?_; clear C; rintro e w3 ⟨rfl, hb3, hk3⟩; have HB3 := Lib.hid hb3; have HK3 := Lib.hid hk3; clear hb3 hk3)
        go_ret
        exact ⟨by rw [HLEN.out]; rfl, HK1.out.trans HK3.out (fun i hi => .inl hi)⟩
      | some p =>
        rw [hst] at hlen C
        dsimp only [List.length_cons] at hlen
        simp only [Option.isSome_some, Option.getD_some] at C
        have HLEN := Lib.hid hlen
        clear hlen hk1 hb hk hrow hdrop hst
        go_wp2_with (go_at_call 78; refine C.mono ?_; clear C; rintro e w3 ⟨rfl, hb3, hk3⟩; have HB3 := Lib.hid hb3; have HK3 := Lib.hid hk3; clear hb3 hk3)
        go_roundw
        case rel => exact ⟨j + 1, p.1, p.2, by simp, by omega, by rw [HLEN.out]; omega, HB3.out, HK1.out.trans HK3.out (fun i hi => .inl hi)⟩
        case measure => simp [intOf]; omega
    · obtain rfl : j = l.length := by omega
      rw [List.drop_length] at hlen
      simp only [farF, List.length_nil, Nat.add_zero] at hlen
      have HLEN := Lib.hid hlen
      have HK := Lib.hid hk
      clear hlen hk hb
      go_wp2
      go_ret
      exact ⟨by rw [HLEN.out]; rfl, HK.out⟩

set_option maxRecDepth 100000 in
theorem Follows_ok (l : List FAct) (v : Value) (w : World) (hrow : w.ownsRow 0 84 3 v l.length (fencs l)) (hl : l.length ≤ 65536) :
    Calls Try.prog 43 #[v] w fun e w' => ((farF 0 false l).length < l.length ∧ e = .returned (.tuple #[.int .i64 (farF 0 false l).length, .bool false]) ∨ (farF 0 false l).length = l.length ∧ e = .returned (.tuple #[.int .i64 0, .bool true])) ∧ Keeps Nothing w w' := by
  have hlt : ∀ k, v.ownBlock = some k → k < w.heap.size := fun k hk => by obtain ⟨cs, hcs⟩ := ownsRow_blk hrow hk; exact hcs.lt
  have hkk : Keeps Nothing w (w.alloc (.cells #[.int .i64 0, .bool false] 142)) := (Keeps.refl _ _).alloc _
  have C := farDoes_ok w.heap.size 0 false l v (w.alloc (.cells #[.int .i64 0, .bool false] 142)) (ownsRow_kept hrow fun k hk => hkk.block k (hlt k hk) id) (Blk.new _ _ _) (fun h => by have := hlt _ h; omega) hl
  obtain ⟨a, cap, rfl, _, _⟩ := ownsRow_form hrow
  have hle := farF_le 0 false l
  obtain ⟨m, hm⟩ : ∃ m, (farF 0 false l).length = m := ⟨_, rfl⟩
  rw [hm] at C hle ⊢
  have HROW := Lib.hid hrow
  have HKK := Lib.hid hkk
  have HLE := Lib.hid hle
  clear hrow hlt hm hkk hle
  by_cases hlt : m < l.length
  · go_enter Try.func43, Try.ntmps43
    go_wp2_with (go_at_call 77; refine C.mono ?_; clear C; rintro e w3 ⟨rfl, hk3⟩; have HK3 := Lib.hid hk3; clear hk3)
    go_ret2
    exact ⟨.inl ⟨by omega, rfl⟩, (HKK.out.trans HK3.out (fun i hi => .inr (by omega)))⟩
  · go_enter Try.func43, Try.ntmps43
    go_wp2_with (go_at_call 77; refine C.mono ?_; clear C; rintro e w3 ⟨rfl, hk3⟩; have HK3 := Lib.hid hk3; clear hk3)
    go_ret2
    exact ⟨.inr ⟨by have := HLE.out; omega, rfl⟩, (HKK.out.trans HK3.out (fun i hi => .inr (by omega)))⟩

end Go.Proofs.Ytejbeioiomjbpaa
