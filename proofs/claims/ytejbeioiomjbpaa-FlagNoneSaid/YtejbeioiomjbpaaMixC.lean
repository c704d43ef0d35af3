import Derived.Test.YtejbeioiomjbpaaMixC0
namespace Go.Proofs.Ytejbeioiomjbpaa
open Go

section
variable {P : Program} {α β : Type}

/-- Two operations, the first ahead of the second in the text, may change places, if their operands are plain. -/
def indep (P : Program) (ops : Array Oper) (x y : Oper) : Bool :=
  x.apart ops y && (wlB P x.op || bnB x.op || wlB P y.op || bnB y.op || (rdB P x.op && alB P y.op))

/-- The operation is of plain operands, if it is one of those that may look behind them. -/
def Plain (P : Program) (o : Oper) (a : Act) : Prop := bnB o.op = true → wlB P o.op = true ∨ plainOp P o a = true

/-- What may come behind the region: its ordinary end alone. -/
def Only (N : Act → World → Prop) : Exit → Act → World → Prop := Exit.then N (fun _ _ _ => False)

theorem only_lets (N : Act → World → Prop) : ¬ LetsOut (Only N) := fun ⟨_, _, h⟩ => h

variable {ops : Array Oper} {N : Act → World → Prop}

/-- The frame that an operation leaves: its slot alone has turned, as far as operands go. -/
def Slots (o : Oper) (a a' : Act) : Prop := ∃ u, a'.tmps = (a.put o.dst u).tmps
theorem Slots.eval {o oj : Oper} {a a' : Act} (h : Slots o a a') (hap : ∀ d, o.dst = some d → d ∉ oj.looksAt ops) (hs : ∀ cs b, oj.op ≠ .select cs b) :
    execOp a'.eval oj = execOp a.eval oj ∧ Region.wanted oj (yielded ops a'.tmps) = Region.wanted oj (yielded ops a.tmps) := by
  obtain ⟨u, hu⟩ := h
  have e1 : a'.eval = (a.put o.dst u).eval := by
    funext x
    cases x <;> simp [Act.eval, hu]
  rw [e1, hu]
  exact ⟨execOp_put oj hs a o.dst u hap, wanted_put oj a o.dst u hap⟩

theorem wpOp_reach {i : Nat} {o : Oper} (hi : ops[i]? = some o) {K : Act → World → Prop} {a : Act} {w : World} (h : wpOp P ops (Only N) i K a w) :
    wpOp P ops (Only N) i (fun a' w' => K a' w' ∧ Slots o a a') a w := by
  unfold wpOp at *
  simp only [hi] at *
  split
  · rename_i hw
    simp only [hw, if_true] at h
    rcases h with h | ⟨_, h⟩
    case inr => exact absurd h (only_lets N)
    refine .inl ?_
    unfold Oper.wp at *
    generalize (execOp a.eval o).run P w = r at *
    cases r with
    | ok n w' =>
      cases n <;> simp only [Oper.upon] at h ⊢
      case value u => exact ⟨h, u, rfl⟩
      case skip => exact ⟨h, undef, rfl⟩
      case defer d => exact ⟨h, undef, by cases o.dst <;> rfl⟩
      case enter f args =>
        refine Calls.mono h fun e w'' he => ?_
        cases e with
        | returned u => exact ⟨he, u, rfl⟩
        | panicked c => exact he
        | outgrown => exact he
      case row row args => exact Rows.mono h fun u w'' he => ⟨he, u, rfl⟩
    | halt x w' => cases x <;> simp only [Oper.upon] at h ⊢; exact h
  · rename_i hw
    simp only [hw] at h
    exact ⟨h, undef, rfl⟩

theorem wpOp_some {i : Nat} {o : Oper} (hi : ops[i]? = some o) {K : Act → World → Prop} {a : Act} {w : World} (h : wpOp P ops (Only N) i K a w) : ∃ a' w', K a' w' := by
  unfold wpOp at h
  simp only [hi] at h
  split at h
  · rcases h with h | ⟨_, h⟩
    case inr => exact absurd h (only_lets N)
    unfold Oper.wp at h
    generalize (execOp a.eval o).run P w = r at *
    cases r with
    | ok n w' =>
      cases n <;> simp only [Oper.upon] at h
      case value u => exact ⟨_, _, h⟩
      case skip => exact ⟨_, _, h⟩
      case defer d => exact ⟨_, _, h⟩
      case enter f args =>
        obtain ⟨e, w'', fr, hR, _⟩ := h []
        cases e with
        | returned u => exact ⟨_, _, hR⟩
        | panicked c => exact hR.elim
        | outgrown => exact absurd hR (only_lets N)
      case row row args =>
        obtain ⟨v, w'', hR, _⟩ := h default []
        exact ⟨_, _, hR⟩
    | halt x w' => cases x <;> simp only [Oper.upon] at h; exact h.elim
  · exact ⟨_, _, h⟩

/-- A slot that the operation does not look at may be filled ahead of it. -/
theorem wpOp_ahead {i : Nat} {o : Oper} (hi : ops[i]? = some o) {dst : Option Tmp} {v : Value} (h1 : ∀ d, dst = some d → d ∉ o.looksAt ops) (h2 : ∀ d, o.dst = some d → dst ≠ some d)
    (hs : ∀ cs b, o.op ≠ .select cs b) {K : Act → World → Prop} {a : Act} {w : World} (h : wpOp P ops (Only N) i (fun a' w' => K (a'.put dst v) w') a w) :
    wpOp P ops (Only N) i K (a.put dst v) w := by
  have comm : ∀ (b : Act) u, (b.put o.dst u).put dst v = (b.put dst v).put o.dst u := fun b u => Act.put_comm b u v h2
  unfold wpOp at *
  simp only [hi] at *
  rw [wanted_put o a dst v h1]
  split
  · rename_i hw
    simp only [hw, if_true] at h
    rcases h with h | ⟨_, h⟩
    case inr => exact absurd h (only_lets N)
    refine .inl ?_
    unfold Oper.wp at *
    rw [execOp_put o hs a dst v h1]
    generalize (execOp a.eval o).run P w = r at *
    cases r with
    | ok n w' =>
      cases n <;> simp only [Oper.upon] at h ⊢
      case value u => rw [← comm]; exact h
      case skip => rw [← comm]; exact h
      case defer d => rw [Act.put_defers, ← comm]; exact h
      case enter f args =>
        refine Calls.mono h fun e w'' he => ?_
        cases e with
        | returned u => dsimp only at he ⊢; rw [← comm]; exact he
        | panicked c => exact he
        | outgrown => exact he
      case row row args => exact Rows.mono h fun u w'' he => by rw [← comm]; exact he
    | halt x w' => cases x <;> simp only [Oper.upon] at h ⊢; exact h
  · rename_i hw
    simp only [hw] at h
    rw [← comm]; exact h

/-- The exchange. -/
theorem wpOp_swap {i j : Nat} {oi oj : Oper} (hi : ops[i]? = some oi) (hj : ops[j]? = some oj) (hsi : ∀ cs b, oi.op ≠ .select cs b) (hsj : ∀ cs b, oj.op ≠ .select cs b)
    (hin : indep P ops oi oj = true) {K : Act → World → Prop} {a : Act} {w : World}
    (hpi : Region.wanted oi (yielded ops a.tmps) = true → Plain P oi a) (hpj : Region.wanted oj (yielded ops a.tmps) = true → Plain P oj a)
    (h : wpOp P ops (Only N) i (wpOp P ops (Only N) j K) a w) : wpOp P ops (Only N) j (wpOp P ops (Only N) i K) a w := by
  simp only [indep, Bool.and_eq_true, Bool.or_eq_true] at hin
  obtain ⟨hap, hk⟩ := hin
  obtain ⟨h1, h2, h3⟩ := Oper.apart_spec hap
  by_cases hwi : Region.wanted oi (yielded ops a.tmps) = true
  rotate_left
  · -- i is passed over
    have hy : Yields P ops oi undef a := .inr ⟨by simpa using hwi, rfl⟩
    have h' : wpOp P ops (Only N) j K (a.put oi.dst undef) w := by
      unfold wpOp at h; simp only [hi, hwi, Bool.false_eq_true, if_false] at h; exact h
    exact wpOp_mono (fun a' w' hh => hh.1.wpOp hi hh.2) (wpOp_put hj hap hsi hsj (fun _ _ _ hh => hh) hy h')
  have hk' : (Wl P (execOp a.eval oi) ∧ Vals P (execOp a.eval oi)) ∨ (wlB P oj.op = true ∨ bnB oj.op = true) ∨ (rdB P oi.op = true ∧ alB P oj.op = true) := by
    rcases hk with (((hk | hk) | hk) | hk) | hk
    · exact .inl (wl_of a.eval oi hk)
    · exact .inl (wl_plain a oi (by rcases hpi hwi hk with h | h <;> simp [h, hk]))
    · exact .inr (.inl (.inl hk))
    · exact .inr (.inl (.inr hk))
    · exact .inr (.inr hk)
  clear hk
  rcases hk' with hk | hk | ⟨hk, hk2⟩
  · -- i looks at no memory
    obtain ⟨hl, hv⟩ := hk
    have h' := h
    unfold wpOp at h'
    simp only [hi, hwi, if_true] at h'
    rcases h' with h' | ⟨_, h'⟩
    case inr => exact absurd h' (only_lets N)
    unfold Oper.wp at h'
    cases hr : (execOp a.eval oi).run P w with
    | halt x w' =>
      rw [hr] at h'
      cases x <;> simp only [Oper.upon] at h'; exact h'.elim
    | ok n w' =>
      obtain ⟨u, rfl⟩ := hv _ _ _ hr
      obtain ⟨rfl, hall⟩ := hl _ _ _ hr
      rw [hr] at h'
      simp only [Oper.upon] at h'
      have hy : Yields P ops oi u a := .inl ⟨hwi, hall⟩
      exact wpOp_mono (fun a' w' hh => hh.1.wpOp hi hh.2) (wpOp_put hj hap hsi hsj (fun _ _ _ hh => hh) hy h')
  · -- j looks at no memory
    have hre := wpOp_reach hi h
    by_cases hwj : Region.wanted oj (yielded ops a.tmps) = true
    · obtain ⟨hl, hv⟩ : Wl P (execOp a.eval oj) ∧ Vals P (execOp a.eval oj) := by
        rcases hk with hk | hk
        · exact wl_of a.eval oj hk
        · exact wl_plain a oj (by rcases hpj hwj hk with h | h <;> simp [h, hk])
      have hex : ∃ u, ∀ w', (execOp a.eval oj).run P w' = .ok (.value u) w' := by
        obtain ⟨a', w', hh, hs⟩ := wpOp_some hi hre
        obtain ⟨e1, e2⟩ := hs.eval (ops := ops) (oj := oj) h1 hsj
        unfold wpOp at hh
        simp only [hj, e2, hwj, if_true] at hh
        rcases hh with hh | ⟨_, hh⟩
        case inr => exact absurd hh (only_lets N)
        unfold Oper.wp at hh
        rw [e1] at hh
        cases hr : (execOp a.eval oj).run P w' with
        | halt x w2 => rw [hr] at hh; cases x <;> simp only [Oper.upon] at hh; exact hh.elim
        | ok n w2 =>
          obtain ⟨u, rfl⟩ := hv _ _ _ hr
          exact ⟨u, (hl _ _ _ hr).2⟩
      obtain ⟨u, hu⟩ := hex
      have hy : Yields P ops oj u a := .inl ⟨hwj, hu⟩
      refine hy.wpOp hj (wpOp_ahead hi h3 h2 hsi (wpOp_mono (fun a' w' hh => ?_) hre))
      obtain ⟨hh, hs⟩ := hh
      obtain ⟨e1, e2⟩ := hs.eval (ops := ops) (oj := oj) h1 hsj
      unfold wpOp at hh
      simp only [hj, e2, hwj, if_true] at hh
      rcases hh with hh | ⟨_, hh⟩
      case inr => exact absurd hh (only_lets N)
      unfold Oper.wp at hh
      rw [e1, hu w'] at hh
      exact hh
    · have hy : Yields P ops oj undef a := .inr ⟨by simpa using hwj, rfl⟩
      refine hy.wpOp hj (wpOp_ahead hi h3 h2 hsi (wpOp_mono (fun a' w' hh => ?_) hre))
      obtain ⟨hh, hs⟩ := hh
      obtain ⟨e1, e2⟩ := hs.eval (ops := ops) (oj := oj) h1 hsj
      unfold wpOp at hh
      simp only [hj, e2, hwj, Bool.false_eq_true, if_false] at hh
      exact hh
  · -- i reads, j reads or makes memory
    obtain ⟨hl, hv⟩ := rd_of (P := P) a.eval oi hk
    have h' := h
    unfold wpOp at h'
    simp only [hi, hwi, if_true] at h'
    rcases h' with h' | ⟨_, h'⟩
    case inr => exact absurd h' (only_lets N)
    unfold Oper.wp at h'
    cases hr : (execOp a.eval oi).run P w with
    | halt x w' =>
      rw [hr] at h'
      cases x <;> simp only [Oper.upon] at h'; exact h'.elim
    | ok n w' =>
      obtain ⟨u, rfl⟩ := hv _ _ _ hr
      obtain ⟨rfl, hall⟩ := hl _ _ _ hr
      rw [hr] at h'
      simp only [Oper.upon] at h'
      -- j, then i
      have back : ∀ (b : Nat → Act) (v2 : Value) (w2 : World), Grows w' w2 → K ((a.put oi.dst u).put oj.dst v2) w2 → wpOp P ops (Only N) i K (a.put oj.dst v2) w2 := by
        intro _ v2 w2 hg hK
        unfold wpOp
        simp only [hi]
        rw [wanted_put oi a oj.dst v2 h3]
        simp only [hwi, if_true]
        refine .inl ?_
        unfold Oper.wp
        rw [execOp_put oi hsi a oj.dst v2 h3, hall _ hg]
        simp only [Oper.upon]
        rw [← Act.put_comm a u v2 h2]
        exact hK
      replace h' : wpOp P ops (Only N) j K (a.put oi.dst u) w' := h'
      unfold wpOp at h'
      rw [wpOp]
      simp only [hj] at h' ⊢
      rw [wanted_put oj a oi.dst u h1] at h'
      by_cases hwj : Region.wanted oj (yielded ops a.tmps) = true
      · simp only [hwj, if_true] at h' ⊢
        rcases h' with h' | ⟨_, h'⟩
        case inr => exact absurd h' (only_lets N)
        refine .inl ?_
        unfold Oper.wp at h' ⊢
        rw [execOp_put oj hsj a oi.dst u h1] at h'
        obtain ⟨hl2, hv2⟩ := al_of (P := P) a.eval oj hk2
        cases hr2 : (execOp a.eval oj).run P w' with
        | halt x w2 => rw [hr2] at h'; cases x <;> simp only [Oper.upon] at h'; exact h'.elim
        | ok n w2 =>
          obtain ⟨v2, rfl⟩ := hv2 _ _ _ hr2
          rw [hr2] at h'
          exact back (fun _ => a) v2 w2 (hl2 _ _ _ hr2) h'
      · simp only [hwj, Bool.false_eq_true, if_false] at h' ⊢
        exact back (fun _ => a) undef w' (Grows.refl _) h'

/-- Operation i must come ahead of operation j. -/
def anc (md : Region.Mode) (ops : Array Oper) : Nat → Nat → Nat → Bool
  | 0, _, _ => false
  | n + 1, j, i => match ops[j]? with
    | some oj => oj.after.any fun e => Region.binds md e && (e.on == i || anc md ops n e.on i)
    | none => false

def Shut (md : Region.Mode) (ops : Array Oper) (listed : Array Bool) : Prop :=
  ∀ j oj, ops[j]? = some oj → listed.getD j false = true → ∀ e ∈ oj.after, Region.binds md e = true → listed.getD e.on false = true

theorem anc_listed {md : Region.Mode} {listed : Array Bool} (hc : Shut md ops listed) : ∀ (n j i : Nat), (∀ oj, ops[j]? = some oj → ∀ e ∈ oj.after, Region.binds md e = true → listed.getD e.on false = true) →
    anc md ops n j i = true → listed.getD i false = true
  | 0, _, _, _, h => by simp [anc] at h
  | n + 1, j, i, hj, h => by
    unfold anc at h
    cases ho : ops[j]? with
    | none => rw [ho] at h; simp at h
    | some oj =>
      rw [ho] at h
      obtain ⟨e, he, hb⟩ := Array.any_eq_true'.1 h
      simp only [Bool.and_eq_true, Bool.or_eq_true, beq_iff_eq] at hb
      have hl := hj oj ho e he hb.1
      rcases hb.2 with rfl | h2
      · exact hl
      · exact anc_listed hc n e.on i (fun ok hok e' he' hb' => hc e.on ok hok hl e' he' hb') h2

theorem Shut.set {md : Region.Mode} {listed : Array Bool} {i : Nat} (hc : Shut md ops listed) (hi : i ∈ Region.ready md ops listed) : Shut md ops (listed.setIfInBounds i true) := by
  obtain ⟨_, oi, hoi, hall⟩ := mem_ready.1 hi
  intro j oj hj hl e he hb
  by_cases hij : i = j
  · subst hij
    have : oj = oi := Option.some.inj (hj.symm.trans hoi)
    subst this
    exact getD_set_true (hall e he hb)
  · rw [getD_set_ne false hij] at hl
    exact getD_set_true (hc j oj hj hl e he hb)

/-- Slot t is none of those that operations which have not come yet will write. -/
def Safe (ops : Array Oper) (listed : Array Bool) (t : Tmp) : Prop := ∀ k ok, ops[k]? = some ok → listed.getD k true = false → ok.dst ≠ some t

theorem put_slot {a : Act} {d : Option Tmp} {v : Value} {t : Tmp} (h : d ≠ some t) : (a.put d v).tmps[t]? = a.tmps[t]? := by
  cases d with
  | none => rfl
  | some d => simp [Act.put, Array.getElem?_setIfInBounds_ne (show d ≠ t from fun e => h (by rw [e]))]

/-- Behind what is left of the region the slots that nobody writes hold what they hold. -/
theorem wpAny_end {md : Region.Mode} : ∀ (fuel : Nat) (listed : Array Bool) (a : Act) (w : World), wpAny P md ops (Only N) fuel listed a w →
    ∃ a' w', N a' w' ∧ ∀ t, Safe ops listed t → a'.tmps[t]? = a.tmps[t]?
  | 0, listed, a, w, h => ⟨a, w, h.2, fun _ _ => rfl⟩
  | fuel + 1, listed, a, w, h => by
    by_cases hr : Region.ready md ops listed = []
    · exact ⟨a, w, h.1 hr, fun _ _ => rfl⟩
    · obtain ⟨i, hi⟩ := List.exists_mem_of_ne_nil _ hr
      obtain ⟨hun, oi, hoi, _⟩ := mem_ready.1 hi
      obtain ⟨a1, w1, h1, u, hu⟩ := wpOp_some hoi (wpOp_reach hoi (h.2 i hi))
      obtain ⟨a', w', hN, hall⟩ := wpAny_end fuel _ a1 w1 h1
      refine ⟨a', w', hN, fun t ht => ?_⟩
      rw [hall t ?_, hu, put_slot (ht i oi hoi hun)]
      intro k ok hk hl
      by_cases hik : i = k
      · subst hik; exact ht i ok hk hun
      · rw [getD_set_ne true hik] at hl; exact ht k ok hk hl

/-- The slots that an operation looks at are written by operations ahead of it alone. -/
def fixedAt (md : Region.Mode) (ops : Array Oper) (o : Oper) (j : Nat) : Bool :=
  (o.looksAt ops).all fun t => (List.range ops.size).all fun k => match ops[k]? with
    | some ok => ok.dst != some t || anc md ops 6 j k
    | none => true
def fixedB (md : Region.Mode) (ops : Array Oper) : Bool :=
  (List.range ops.size).all fun j => match ops[j]? with
    | some o => !bnB o.op || fixedAt md ops o j
    | none => true

theorem fixed_safe {md : Region.Mode} {listed : Array Bool} (hf : fixedB md ops = true) {j : Nat} {oj : Oper} (hj : ops[j]? = some oj) (hb : bnB oj.op = true) (hc : Shut md ops listed) (hr : j ∈ Region.ready md ops listed) :
    ∀ t ∈ oj.looksAt ops, Safe ops listed t := by
  intro t ht k ok hk hl he
  simp only [fixedB, List.all_eq_true, List.mem_range] at hf
  have h1 := hf j (Array.getElem?_eq_some_iff.1 hj).1
  simp only [hj, hb, Bool.not_true, Bool.false_or, fixedAt, List.all_eq_true, List.mem_range] at h1
  have h2 := h1 t ht k (Array.getElem?_eq_some_iff.1 hk).1
  simp only [hk, he, bne_self_eq_false, Bool.false_or] at h2
  obtain ⟨_, oj', hoj', hall⟩ := mem_ready.1 hr
  have hl2 := anc_listed hc 6 j k (fun o ho e he' hb' => by
    have : o = oj' := Option.some.inj (ho.symm.trans hoj')
    subst this
    exact hall e he' hb') h2
  rcases Nat.lt_or_ge k listed.size with h' | h'
  · simp [h'] at hl hl2; rw [hl] at hl2; cases hl2
  · simp [Array.getElem?_eq_none h'] at hl2

/-- All operations that may look behind their operands had plain ones. -/
def plainB (P : Program) (ops : Array Oper) (a : Act) : Bool :=
  ops.toList.all fun o => !bnB o.op || wlB P o.op || plainOp P o a || !Region.wanted o (yielded ops a.tmps)

theorem plain_back {a a' : Act} {o : Oper} (hb : bnB o.op = true) (h : ∀ t ∈ o.looksAt ops, a'.tmps[t]? = a.tmps[t]?) :
    plainOp P o a' = plainOp P o a ∧ Region.wanted o (yielded ops a'.tmps) = Region.wanted o (yielded ops a.tmps) := by
  have he : ∀ x ∈ o.op.operands, a'.eval x = a.eval x := fun x hx => by
    cases x with
    | tmp t =>
      have := h t (List.mem_append_left _ (List.mem_filterMap.2 ⟨.tmp t, by simpa using hx, rfl⟩))
      simp [Act.eval, this]
    | _ => rfl
  constructor
  · obtain ⟨dst, op, type, pos, after, guard⟩ := o
    cases op <;> simp only [bnB, Bool.false_eq_true] at hb
    case binOp op t x y yt => simp only [plainOp]; rw [he x (by simp [Op.operands]), he y (by simp [Op.operands])]
    case unOp op t x => simp only [plainOp]; rw [he x (by simp [Op.operands])]
    case convert s d x => simp only [plainOp]; rw [he x (by simp [Op.operands])]
  · unfold Region.wanted
    cases hg : o.guard with
    | none => rfl
    | some gw =>
      obtain ⟨g, want⟩ := gw
      have hy : yielded ops a'.tmps g = yielded ops a.tmps g := by
        unfold yielded
        cases ht : (ops[g]?).bind (·.dst) with
        | none => rfl
        | some t =>
          have := h t (List.mem_append_right _ (by simp [hg, ht]))
          simp [this]
      simp only [hy]

/-- The region, from text number k on, whatever has come. -/
theorem mix_first {md : Region.Mode} {i : Nat} {oi : Oper} (hi : ops[i]? = some oi) (hsel : ∀ (j : Nat) (o : Oper) cs b, ops[j]? = some o → o.op ≠ .select cs b)
    (hN : ∀ a w, N a w → plainB P ops a = true) (hF : fixedB md ops = true) :
    ∀ (fuel : Nat) (listed : Array Bool) (a : Act) (w : World),
      (∀ j oj, ops[j]? = some oj → j ≠ i → listed.getD j true = false → anc md ops 6 j i = false → indep P ops oi oj = true) → Shut md ops listed →
      i ∈ Region.ready md ops listed →
      wpOp P ops (Only N) i (wpAny P md ops (Only N) fuel (listed.setIfInBounds i true)) a w → wpAny P md ops (Only N) (fuel + 1) listed a w := by
  intro fuel
  induction fuel with
  | zero =>
    intro listed a w _ _ hr H
    refine ⟨fun h => (by rw [h] at hr; cases hr), fun j hj => ?_⟩
    by_cases hji : j = i
    · subst hji; exact H
    · obtain ⟨a', w', hh⟩ := wpOp_some hi H
      have := ready_mono hj hji
      rw [hh.1] at this
      cases this
  | succ fuel ih =>
    intro listed a w hfree hc hr H
    refine ⟨fun h => (by rw [h] at hr; cases hr), fun j hj => ?_⟩
    by_cases hji : j = i
    · subst hji; exact H
    · obtain ⟨hjun, oj, hoj, hall⟩ := mem_ready.1 hj
      have hiun := (mem_ready.1 hr).1
      have hnot : anc md ops 6 j i = false := by
        cases hA : anc md ops 6 j i with
        | false => rfl
        | true =>
          have h1 := anc_listed hc 6 j i (fun ok hok e he hb => by
            have : ok = oj := Option.some.inj (hok.symm.trans hoj)
            subst this
            exact hall e he hb) hA
          rcases Nat.lt_or_ge i listed.size with h' | h'
          · simp [h'] at hiun h1; rw [hiun] at h1; cases h1
          · simp [Array.getElem?_eq_none h'] at h1
      have hind := hfree j oj hoj hji hjun hnot
      -- where the region ends
      obtain ⟨a1, w1, hh1, u1, hu1⟩ := wpOp_some hi (wpOp_reach hi H)
      obtain ⟨a2, w2, hN2, hsl⟩ := wpAny_end _ _ _ _ hh1
      have hpl := hN _ _ hN2
      have plainOf : ∀ (k : Nat) (ok : Oper), ops[k]? = some ok → k ∈ Region.ready md ops listed → Region.wanted ok (yielded ops a.tmps) = true → Plain P ok a := by
        intro k ok hk hkr hw hb
        have hsafe := fixed_safe hF hk hb hc hkr
        have hsame : ∀ t ∈ ok.looksAt ops, a2.tmps[t]? = a.tmps[t]? := fun t ht => by
          have hs := hsafe t ht
          rw [hsl t ?_, hu1, put_slot (hs i oi hi hiun)]
          intro m om hm hml
          by_cases him : i = m
          · subst him; exact hs i om hm hiun
          · rw [getD_set_ne true him] at hml; exact hs m om hm hml
        obtain ⟨p1, p2⟩ := plain_back (P := P) hb hsame
        simp only [plainB, List.all_eq_true] at hpl
        have := hpl ok (by simpa using Array.mem_of_getElem? hk)
        rw [p1, p2, hw] at this
        simp [hb] at this
        exact this
      have h1 : wpOp P ops (Only N) i (wpOp P ops (Only N) j (wpAny P md ops (Only N) fuel ((listed.setIfInBounds i true).setIfInBounds j true))) a w :=
        wpOp_mono (fun a' w' hh => hh.2 j (ready_mono hj hji)) H
      have h2 := wpOp_swap hi hoj (fun cs b => hsel i oi cs b hi) (fun cs b => hsel j oj cs b hoj) hind (plainOf i oi hi hr) (plainOf j oj hoj hj) h1
      have hfree' : ∀ k ok, ops[k]? = some ok → k ≠ i → (listed.setIfInBounds j true).getD k true = false →
          anc md ops 6 k i = false → indep P ops oi ok = true := fun k ok hk hki hun hno => by
        refine hfree k ok hk hki ?_ hno
        by_cases hjk : j = k
        · subst hjk; exact hjun
        · rw [getD_set_ne true hjk] at hun; exact hun
      refine wpOp_mono (fun a' w' h3 => ih (listed.setIfInBounds j true) a' w' hfree' (hc.set hj) (ready_mono hr (Ne.symm hji)) ?_) h2
      rw [Array.setIfInBounds_comm _ _ hji]
      exact h3

/-- Operation k, the ones ahead of it having come: it may come, and whatever may come with it is independent of it. -/
def mixAt (P : Program) (md : Region.Mode) (ops : Array Oper) (listed : Array Bool) (k : Nat) : Bool :=
  match ops[k]? with
  | none => false
  | some ok => (List.range ops.size).all fun j => j == k || listed.getD j true || match ops[j]? with
      | some oj => indep P ops ok oj || anc md ops 6 j k
      | none => true
def mixFrom (P : Program) (md : Region.Mode) (ops : Array Oper) : Nat → Nat → Array Bool → Bool
  | 0, _, listed => (Region.ready md ops listed).isEmpty
  | fuel + 1, k, listed => (Region.ready md ops listed).contains k && mixAt P md ops listed k && mixFrom P md ops fuel (k + 1) (listed.setIfInBounds k true)
def mixB (P : Program) (ops : Array Oper) : Bool := Region.noSelect ops && fixedB .any ops && mixFrom P .any ops ops.size 0 (Array.replicate ops.size false)

theorem mixAt_spec {md : Region.Mode} {k : Nat} {ok : Oper} {listed : Array Bool} (hk : ops[k]? = some ok) (h : mixAt P md ops listed k = true) (j : Nat) (oj : Oper)
    (hj : ops[j]? = some oj) (hne : j ≠ k) (hun : listed.getD j true = false) (hno : anc md ops 6 j k = false) : indep P ops ok oj = true := by
  simp only [mixAt, hk, List.all_eq_true, List.mem_range] at h
  have h1 := h j (Array.getElem?_eq_some_iff.1 hj).1
  simp only [hj, Bool.or_eq_true, beq_iff_eq, hne, false_or, hun, Bool.false_eq_true, hno, or_false] at h1
  exact h1

theorem mix_lex {md : Region.Mode} (hs : Region.noSelect ops = true) (hN : ∀ a w, N a w → plainB P ops a = true) (hF : fixedB md ops = true) : ∀ (l : List Oper) (k : Nat) (listed : Array Bool) (a : Act) (w : World), (∀ j, l[j]? = ops[k + j]?) → Shut md ops listed →
    mixFrom P md ops l.length k listed = true → wpList P ops (Only N) l a w → wpAny P md ops (Only N) l.length listed a w
  | [], _, _, _, _, _, _, hB, h => ⟨by simpa [mixFrom] using hB, h⟩
  | o :: l, k, listed, a, w, hl, hc, hB, h => by
    have h0 : ops[k]? = some o := by simpa using (hl 0).symm
    simp only [List.length_cons, mixFrom, Bool.and_eq_true] at hB
    obtain ⟨⟨hr, hf⟩, hB'⟩ := hB
    have hr' : k ∈ Region.ready md ops listed := by simpa using hr
    have hst : wpOp P ops (Only N) k (wpList P ops (Only N) l) a w := by unfold wpOp; simp only [h0]; exact h
    exact mix_first h0 (Region.noSelect_spec hs) hN hF l.length listed a w (mixAt_spec h0 hf) hc hr'
      (wpOp_mono (fun a' w' hh => mix_lex hs hN hF l (k + 1) _ a' w' (fun j => by have := hl (j + 1); simpa [Nat.add_assoc, Nat.add_comm 1 j] using this) (hc.set hr') hB' hh) hst)

theorem wpList_end {N' : Act → World → Prop} (hNN : ∀ a w, N a w → N' a w) {l : List Oper} {a : Act} {w : World} (h : wpList P ops (Only N) l a w) : wpList P ops (Only N') l a w := by
  induction l generalizing a w with
  | nil => exact hNN _ _ h
  | cons o l ih =>
    unfold wpList at h ⊢
    split
    · rename_i hw
      rw [if_pos hw] at h
      rcases h with h | ⟨_, h⟩
      case inr => exact absurd h (only_lets N)
      refine .inl ?_
      unfold Oper.wp at h ⊢
      generalize (execOp a.eval o).run P w = r at *
      cases r with
      | ok n w' =>
        cases n <;> simp only [Oper.upon] at h ⊢
        case value u => exact ih h
        case skip => exact ih h
        case defer d => exact ih h
        case enter f args =>
          refine Calls.mono h fun e w'' he => ?_
          cases e with
          | returned u => exact ih he
          | panicked c => exact he
          | outgrown => exact absurd he (only_lets N)
        case row row args => exact Rows.mono h fun u w'' he => ih he
      | halt x w' => cases x <;> simp only [Oper.upon] at h ⊢; exact h
    · rename_i hw
      rw [if_neg hw] at h
      exact ih h

/-- **A region that draws its order, walked once in the order of its text**: behind it, that the operands of its sums and comparisons were plain. -/
theorem wp_mixp {id : Nat} {Q : Exit → Act → World → Prop} {a : Act} {w : World} {l : List Oper} (hm : P.follows .mixedOrders = true) (hB : mixB P l.toArray = true)
    (h : wpList P l.toArray (Exit.then (fun a' w' => plainB P l.toArray a' = true ∧ Q .normal a' w') (fun _ _ _ => False)) l a w.drew) : (Code.region id l.toArray true).wp P Q a w := by
  simp only [mixB, Bool.and_eq_true] at hB
  refine wp_mono (Q := Only (fun a' w' => plainB P l.toArray a' = true ∧ Q .normal a' w')) (wp_region_any hm ?_) ?_
  · have := mix_lex (P := P) (ops := l.toArray) (N := fun a' w' => plainB P l.toArray a' = true ∧ Q .normal a' w') (md := .any) hB.1.1 (fun _ _ h => h.1) hB.1.2 l 0 (Array.replicate l.toArray.size false) a w.drew (by simp) (fun j oj _ hl => by
      have h0 : (Array.replicate l.toArray.size false).getD j false = false := by
        by_cases hj : j < l.length <;> simp [hj]
      rw [h0] at hl; cases hl) (by simpa using hB.2) h
    simpa using this
  · intro e a' w' hq
    cases e <;> first | exact hq.2 | exact hq.elim

/-- The same where it holds no sum and no comparison. -/
theorem wp_mix {id : Nat} {Q : Exit → Act → World → Prop} {a : Act} {w : World} {l : List Oper} (hm : P.follows .mixedOrders = true) (hB : mixB P l.toArray = true) (hn : (l.all fun o => !bnB o.op || wlB P o.op) = true)
    (h : wpList P l.toArray (Exit.then (fun a' w' => Q .normal a' w') (fun _ _ _ => False)) l a w.drew) : (Code.region id l.toArray true).wp P Q a w := by
  refine wp_mixp hm hB (wpList_end ?_ h)
  intro a' w' hq
  refine ⟨?_, hq⟩
  simp only [plainB, List.all_eq_true] at hn ⊢
  intro o ho
  have := hn o ho
  simp only [Bool.or_eq_true] at this ⊢
  exact .inl (.inl this)

end
end Go.Proofs.Ytejbeioiomjbpaa
