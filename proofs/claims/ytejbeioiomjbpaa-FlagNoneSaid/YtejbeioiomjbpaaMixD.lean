/-
  A region that draws its order, walked once in the order of its text: where guards stand behind guards (the ancestors are sought deeper).
-/
import Derived.Test.YtejbeioiomjbpaaMixC
namespace Go.Proofs.Ytejbeioiomjbpaa
open Go

section
variable {P : Program} {α β : Type} {ops : Array Oper} {N : Act → World → Prop}

/-- The slots that an operation looks at are written by operations ahead of it alone. -/
def fixedAtD (md : Region.Mode) (ops : Array Oper) (o : Oper) (j : Nat) : Bool :=
  (o.looksAt ops).all fun t => (List.range ops.size).all fun k => match ops[k]? with
    | some ok => ok.dst != some t || anc md ops 14 j k
    | none => true
def fixedBD (md : Region.Mode) (ops : Array Oper) : Bool :=
  (List.range ops.size).all fun j => match ops[j]? with
    | some o => !bnB o.op || fixedAtD md ops o j
    | none => true

theorem fixed_safeD {md : Region.Mode} {listed : Array Bool} (hf : fixedBD md ops = true) {j : Nat} {oj : Oper} (hj : ops[j]? = some oj) (hb : bnB oj.op = true) (hc : Shut md ops listed) (hr : j ∈ Region.ready md ops listed) :
    ∀ t ∈ oj.looksAt ops, Safe ops listed t := by
  intro t ht k ok hk hl he
  simp only [fixedBD, List.all_eq_true, List.mem_range] at hf
  have h1 := hf j (Array.getElem?_eq_some_iff.1 hj).1
  simp only [hj, hb, Bool.not_true, Bool.false_or, fixedAtD, List.all_eq_true, List.mem_range] at h1
  have h2 := h1 t ht k (Array.getElem?_eq_some_iff.1 hk).1
  simp only [hk, he, bne_self_eq_false, Bool.false_or] at h2
  obtain ⟨_, oj', hoj', hall⟩ := mem_ready.1 hr
  have hl2 := anc_listed hc 14 j k (fun o ho e he' hb' => by
    have : o = oj' := Option.some.inj (ho.symm.trans hoj')
    subst this
    exact hall e he' hb') h2
  rcases Nat.lt_or_ge k listed.size with h' | h'
  · simp [h'] at hl hl2; rw [hl] at hl2; cases hl2
  · simp [Array.getElem?_eq_none h'] at hl2

/-- The region, from text number k on, whatever has come. -/
theorem mix_firstD {md : Region.Mode} {i : Nat} {oi : Oper} (hi : ops[i]? = some oi) (hsel : ∀ (j : Nat) (o : Oper) cs b, ops[j]? = some o → o.op ≠ .select cs b)
    (hN : ∀ a w, N a w → plainB P ops a = true) (hF : fixedBD md ops = true) :
    ∀ (fuel : Nat) (listed : Array Bool) (a : Act) (w : World),
      (∀ j oj, ops[j]? = some oj → j ≠ i → listed.getD j true = false → anc md ops 14 j i = false → indep P ops oi oj = true) → Shut md ops listed →
      i ∈ Region.ready md ops listed →
      wpOp P ops (Only N) i (wpAny P md ops (Only N) fuel (listed.setIfInBounds i true)) a w → wpAny P md ops (Only N) (fuel + 1) listed a w := by
  intro fuel
  induction fuel with
  | zero =>
    intro listed a w _ _ hr H
    refine ⟨fun h => (by rw [h] at hr; cases hr), fun j hj => ?_⟩
    by_cases hji : j = i
    · subst hji; exact H
    · obtain ⟨a', w', hh⟩ := wpOp_some hi H
      have := ready_mono hj hji
      rw [hh.1] at this
      cases this
  | succ fuel ih =>
    intro listed a w hfree hc hr H
    refine ⟨fun h => (by rw [h] at hr; cases hr), fun j hj => ?_⟩
    by_cases hji : j = i
    · subst hji; exact H
    · obtain ⟨hjun, oj, hoj, hall⟩ := mem_ready.1 hj
      have hiun := (mem_ready.1 hr).1
      have hnot : anc md ops 14 j i = false := by
        cases hA : anc md ops 14 j i with
        | false => rfl
        | true =>
          have h1 := anc_listed hc 14 j i (fun ok hok e he hb => by
            have : ok = oj := Option.some.inj (hok.symm.trans hoj)
            subst this
            exact hall e he hb) hA
          rcases Nat.lt_or_ge i listed.size with h' | h'
          · simp [h'] at hiun h1; rw [hiun] at h1; cases h1
          · simp [Array.getElem?_eq_none h'] at h1
      have hind := hfree j oj hoj hji hjun hnot
      -- where the region ends
      obtain ⟨a1, w1, hh1, u1, hu1⟩ := wpOp_some hi (wpOp_reach hi H)
      obtain ⟨a2, w2, hN2, hsl⟩ := wpAny_end _ _ _ _ hh1
      have hpl := hN _ _ hN2
      have plainOf : ∀ (k : Nat) (ok : Oper), ops[k]? = some ok → k ∈ Region.ready md ops listed → Region.wanted ok (yielded ops a.tmps) = true → Plain P ok a := by
        intro k ok hk hkr hw hb
        have hsafe := fixed_safeD hF hk hb hc hkr
        have hsame : ∀ t ∈ ok.looksAt ops, a2.tmps[t]? = a.tmps[t]? := fun t ht => by
          have hs := hsafe t ht
          rw [hsl t ?_, hu1, put_slot (hs i oi hi hiun)]
          intro m om hm hml
          by_cases him : i = m
          · subst him; exact hs i om hm hiun
          · rw [getD_set_ne true him] at hml; exact hs m om hm hml
        obtain ⟨p1, p2⟩ := plain_back (P := P) hb hsame
        simp only [plainB, List.all_eq_true] at hpl
        have := hpl ok (by simpa using Array.mem_of_getElem? hk)
        rw [p1, p2, hw] at this
        simp [hb] at this
        exact this
      have h1 : wpOp P ops (Only N) i (wpOp P ops (Only N) j (wpAny P md ops (Only N) fuel ((listed.setIfInBounds i true).setIfInBounds j true))) a w :=
        wpOp_mono (fun a' w' hh => hh.2 j (ready_mono hj hji)) H
      have h2 := wpOp_swap hi hoj (fun cs b => hsel i oi cs b hi) (fun cs b => hsel j oj cs b hoj) hind (plainOf i oi hi hr) (plainOf j oj hoj hj) h1
      have hfree' : ∀ k ok, ops[k]? = some ok → k ≠ i → (listed.setIfInBounds j true).getD k true = false →
          anc md ops 14 k i = false → indep P ops oi ok = true := fun k ok hk hki hun hno => by
        refine hfree k ok hk hki ?_ hno
        by_cases hjk : j = k
        · subst hjk; exact hjun
        · rw [getD_set_ne true hjk] at hun; exact hun
      refine wpOp_mono (fun a' w' h3 => ih (listed.setIfInBounds j true) a' w' hfree' (hc.set hj) (ready_mono hr (Ne.symm hji)) ?_) h2
      rw [Array.setIfInBounds_comm _ _ hji]
      exact h3

/-- Operation k, the ones ahead of it having come: it may come, and whatever may come with it is independent of it. -/
def mixAtD (P : Program) (md : Region.Mode) (ops : Array Oper) (listed : Array Bool) (k : Nat) : Bool :=
  match ops[k]? with
  | none => false
  | some ok => (List.range ops.size).all fun j => j == k || listed.getD j true || match ops[j]? with
      | some oj => indep P ops ok oj || anc md ops 14 j k
      | none => true
def mixFromD (P : Program) (md : Region.Mode) (ops : Array Oper) : Nat → Nat → Array Bool → Bool
  | 0, _, listed => (Region.ready md ops listed).isEmpty
  | fuel + 1, k, listed => (Region.ready md ops listed).contains k && mixAtD P md ops listed k && mixFromD P md ops fuel (k + 1) (listed.setIfInBounds k true)
def mixBD (P : Program) (ops : Array Oper) : Bool := Region.noSelect ops && fixedBD .any ops && mixFromD P .any ops ops.size 0 (Array.replicate ops.size false)

theorem mixAt_specD {md : Region.Mode} {k : Nat} {ok : Oper} {listed : Array Bool} (hk : ops[k]? = some ok) (h : mixAtD P md ops listed k = true) (j : Nat) (oj : Oper)
    (hj : ops[j]? = some oj) (hne : j ≠ k) (hun : listed.getD j true = false) (hno : anc md ops 14 j k = false) : indep P ops ok oj = true := by
  simp only [mixAtD, hk, List.all_eq_true, List.mem_range] at h
  have h1 := h j (Array.getElem?_eq_some_iff.1 hj).1
  simp only [hj, Bool.or_eq_true, beq_iff_eq, hne, false_or, hun, Bool.false_eq_true, hno, or_false] at h1
  exact h1

theorem mix_lexD {md : Region.Mode} (hs : Region.noSelect ops = true) (hN : ∀ a w, N a w → plainB P ops a = true) (hF : fixedBD md ops = true) : ∀ (l : List Oper) (k : Nat) (listed : Array Bool) (a : Act) (w : World), (∀ j, l[j]? = ops[k + j]?) → Shut md ops listed →
    mixFromD P md ops l.length k listed = true → wpList P ops (Only N) l a w → wpAny P md ops (Only N) l.length listed a w
  | [], _, _, _, _, _, _, hB, h => ⟨by simpa [mixFromD] using hB, h⟩
  | o :: l, k, listed, a, w, hl, hc, hB, h => by
    have h0 : ops[k]? = some o := by simpa using (hl 0).symm
    simp only [List.length_cons, mixFromD, Bool.and_eq_true] at hB
    obtain ⟨⟨hr, hf⟩, hB'⟩ := hB
    have hr' : k ∈ Region.ready md ops listed := by simpa using hr
    have hst : wpOp P ops (Only N) k (wpList P ops (Only N) l) a w := by unfold wpOp; simp only [h0]; exact h
    exact mix_firstD h0 (Region.noSelect_spec hs) hN hF l.length listed a w (mixAt_specD h0 hf) hc hr'
      (wpOp_mono (fun a' w' hh => mix_lexD hs hN hF l (k + 1) _ a' w' (fun j => by have := hl (j + 1); simpa [Nat.add_assoc, Nat.add_comm 1 j] using this) (hc.set hr') hB' hh) hst)
/-- **A region that draws its order, walked once in the order of its text**: behind it, that the operands of its sums and comparisons were plain. -/
theorem wp_mixpD {id : Nat} {Q : Exit → Act → World → Prop} {a : Act} {w : World} {l : List Oper} (hm : P.follows .mixedOrders = true) (hB : mixBD P l.toArray = true)
    (h : wpList P l.toArray (Exit.then (fun a' w' => plainB P l.toArray a' = true ∧ Q .normal a' w') (fun _ _ _ => False)) l a w.drew) : (Code.region id l.toArray true).wp P Q a w := by
  simp only [mixBD, Bool.and_eq_true] at hB
  refine wp_mono (Q := Only (fun a' w' => plainB P l.toArray a' = true ∧ Q .normal a' w')) (wp_region_any hm ?_) ?_
  · have := mix_lexD (P := P) (ops := l.toArray) (N := fun a' w' => plainB P l.toArray a' = true ∧ Q .normal a' w') (md := .any) hB.1.1 (fun _ _ h => h.1) hB.1.2 l 0 (Array.replicate l.toArray.size false) a w.drew (by simp) (fun j oj _ hl => by
      have h0 : (Array.replicate l.toArray.size false).getD j false = false := by
        by_cases hj : j < l.length <;> simp [hj]
      rw [h0] at hl; cases hl) (by simpa using hB.2) h
    simpa using this
  · intro e a' w' hq
    cases e <;> first | exact hq.2 | exact hq.elim


theorem wp_mixkD {id : Nat} {Q : Exit → Act → World → Prop} {a : Act} {w : World} {l : List Oper} (hm : P.follows .mixedOrders = true) (hB : mixBD P l.toArray = true)
    (h : ∀ K : Act → World → Prop, (∀ a' w', plainB P l.toArray a' = true ∧ Q .normal a' w' → K a' w') → wpList P l.toArray (Exit.then K (fun _ _ _ => False)) l a w.drew) : (Code.region id l.toArray true).wp P Q a w :=
  wp_mixpD hm hB (h _ fun _ _ h => h)

end
end Go.Proofs.Ytejbeioiomjbpaa
