/-
  The arena of layer 1 as plain data, and how it lies in memory.
-/
import Derived.Test.YtejbeioiomjbpaaBase
namespace Go.Proofs.Ytejbeioiomjbpaa
open Go.RowKit

structure Acc where
  op : Int
  at_ : Int
  old : Int
  new : Int
  did : Bool

def Acc.enc (x : Acc) : List Value := [.int .i64 x.op, .int .i64 x.at_, .int .u64 x.old, .int .u64 x.new, .bool x.did]
def encs (l : List Acc) : List Value := l.flatMap Acc.enc
@[simp] theorem Acc.enc_length (x : Acc) : x.enc.length = 5 := rfl
theorem encs_length (l : List Acc) : (encs l).length = l.length * 5 := by
  induction l with
  | nil => rfl
  | cons x l ih => simp only [encs, List.flatMap_cons, List.length_append, Acc.enc_length, List.length_cons] at *; omega
theorem encs_snoc (l : List Acc) (x : Acc) : encs (l ++ [x]) = encs l ++ x.enc := by simp [encs]

/-- An arena: its cells, the bound, the last accesses by their numbers modulo 1024, how many there were. -/
structure Ar where
  cells : List Int
  most : Int
  ring : List Acc
  many : Nat

structure Ar.ok (A : Ar) : Prop where
  most1 : 1 ≤ A.most
  most2 : A.most ≤ 65536
  fits : (A.cells.length : Int) ≤ A.most
  ring1 : A.ring.length = min A.many 1024
  many1 : A.many < 4611686018427387904
  u64 : ∀ c ∈ A.cells, 0 ≤ c ∧ c < 18446744073709551616

/-- What an access leaves in the ring. -/
def putRing (l : List Acc) (many : Nat) (x : Acc) : List Acc := if many % 1024 = l.length then l ++ [x] else l.set (many % 1024) x

theorem putRing_length (l : List Acc) (many : Nat) (x : Acc) (h : l.length = min many 1024) : (putRing l many x).length = min (many + 1) 1024 := by
  unfold putRing
  split <;> simp <;> omega

/-- The arena p of the world w is A, and S are its blocks. -/
def IsArena (w : World) (p : Nat) (A : Ar) (S : List Nat) : Prop :=
  A.ok ∧ ∃ lv cv, Blk w p #[lv, .int .u64 A.many, cv, .int .i64 A.most] 69 ∧
    w.ownsRow 0 54 5 lv A.ring.length (encs A.ring) ∧ w.ownsRow 0 39 1 cv A.cells.length (A.cells.map (Value.int .u64)) ∧
    S = p :: (lv.ownBlock.toList ++ cv.ownBlock.toList)

theorem ownsRow_form {w : World} {base : Nat} {e : TypeId} {size : Nat} {v : Value} {n : Nat} {xs : List Value} (h : w.ownsRow base e size v n xs) :
    ∃ a cap, v = .slice a n cap ∧ n ≤ cap ∧ cap ≤ maxLen := by
  rcases h.2 with ⟨rfl, rfl⟩ | ⟨g, cap, cur, rfl, _, _, h1, h2, _⟩
  · exact ⟨none, 0, rfl, Nat.le_refl _, by unfold maxLen; omega⟩
  · exact ⟨_, cap, rfl, h1, h2⟩

theorem ownsRow_kept {w w' : World} {base : Nat} {e : TypeId} {size : Nat} {v : Value} {n : Nat} {xs : List Value} (h : w.ownsRow base e size v n xs)
    (hk : ∀ k, v.ownBlock = some k → w'.heap[k]? = w.heap[k]?) : w'.ownsRow base e size v n xs := by
  refine ⟨h.1, ?_⟩
  rcases h.2 with hn | ⟨g, cap, cur, rfl, hb, hg, rest⟩
  · exact .inl hn
  · exact .inr ⟨g, cap, cur, rfl, hb, by rw [hk g rfl]; exact hg, rest⟩

theorem ownsRow_blk {w : World} {base : Nat} {e : TypeId} {size : Nat} {v : Value} {n : Nat} {xs : List Value} (h : w.ownsRow base e size v n xs) {k : Nat} (hk : v.ownBlock = some k) :
    ∃ cs, Blk w k cs e := by
  rcases h.2 with ⟨rfl, rfl⟩ | ⟨g, cap, cur, rfl, _, hg, _⟩
  · simp [Value.ownBlock] at hk
  · simp [Value.ownBlock] at hk; subst hk; exact ⟨cur, hg⟩

theorem IsArena.lt {w : World} {p : Nat} {A : Ar} {S : List Nat} (h : IsArena w p A S) : ∀ k ∈ S, k < w.heap.size := by
  obtain ⟨_, lv, cv, hb, hl, hc, rfl⟩ := h
  intro k hk
  simp only [List.mem_cons, List.mem_append, Option.mem_toList] at hk
  rcases hk with rfl | hk | hk
  · exact hb.lt
  · obtain ⟨cs, hcs⟩ := ownsRow_blk hl hk; exact hcs.lt
  · obtain ⟨cs, hcs⟩ := ownsRow_blk hc hk; exact hcs.lt

/-- An arena stays as it is where its blocks stay. -/
theorem IsArena.keep {w w' : World} {p : Nat} {A : Ar} {S : List Nat} (h : IsArena w p A S) (hk : ∀ k ∈ S, w'.heap[k]? = w.heap[k]?) : IsArena w' p A S := by
  obtain ⟨hok, lv, cv, hb, hl, hc, rfl⟩ := h
  refine ⟨hok, lv, cv, (hk p (by simp)).trans hb, ownsRow_kept hl fun k e => hk k (by simp [e]), ownsRow_kept hc fun k e => hk k (by simp [e]), rfl⟩

theorem IsArena.frame {w w' : World} {p : Nat} {A : Ar} {S : List Nat} {T : Nat → Prop} (h : IsArena w p A S) (hk : Keeps T w w') (hd : ∀ k ∈ S, ¬ T k) : IsArena w' p A S :=
  h.keep fun k hm => hk.block k (h.lt k hm) (hd k hm)

/-- One access: the next ring and count. -/
def Ar.noted (A : Ar) (x : Acc) : Ar := { A with ring := putRing A.ring A.many x, many := A.many + 1 }

end Go.Proofs.Ytejbeioiomjbpaa
