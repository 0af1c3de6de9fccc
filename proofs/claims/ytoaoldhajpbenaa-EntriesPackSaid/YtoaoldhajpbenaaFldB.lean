/- A writer of package field: what each call does. No statement is proved here. -/
import Derived.Test.YtoaoldhajpbenaaFldA
import Derived.Test.YtoaoldhajpbenaaEntB
import Derived.Deep.RegionLaw
namespace Go.Proofs.Ytoaoldhajpbenaa
open Go.RowKit

theorem rightSize_any (n : Int) (w : World) :
    Calls Try.prog 104 #[.int .i64 n] w fun e w' => e = .returned (.bool (decide (n = 1) || decide (n = 2) || decide (n = 4))) ∧ w = w' := by
  by_cases h1 : n = 1
  · subst h1
    go_enter Try.func104, Try.ntmps104
    go_wp2
    go_ret
    exact ⟨rfl, rfl⟩
  · by_cases h2 : n = 2
    · subst h2
      go_enter Try.func104, Try.ntmps104
      go_wp2
      go_ret
      exact ⟨rfl, rfl⟩
    · have b1 : (n == 1) = false := by simpa using h1
      have b2 : (n == 2) = false := by simpa using h2
      go_enter Try.func104, Try.ntmps104
      go_wp2
      go_ret
      refine ⟨?_, rfl⟩
      simp [h1, h2]
      rfl

/-- A writer (or a reader) in block g: its bytes, in memory of its own, and its error. -/
def WrAt (T : TypeId) (B : Nat) (w : World) (g : Nat) (xs : List UInt8) (er : Int) : Prop :=
  B ≤ g ∧ ∃ v, w.heap[g]? = some (.cells #[v, .int .i64 er] T (0, 0)) ∧ w.ownsRow B 5 1 v xs.length (byteCells xs)

/-- A writer in block g, where nothing of S lies: neither its own block nor its row's. -/
def WrS (T : TypeId) (S : Nat → Prop) (B : Nat) (w : World) (g : Nat) (xs : List UInt8) (er : Int) : Prop :=
  B ≤ g ∧ ¬ S g ∧ ∃ v, w.heap[g]? = some (.cells #[v, .int .i64 er] T (0, 0)) ∧ w.ownsRow B 5 1 v xs.length (byteCells xs) ∧ ∀ k, v.ownBlock = some k → ¬ S k
theorem WrS.at_ {T : TypeId} {S : Nat → Prop} {B : Nat} {w : World} {g : Nat} {xs : List UInt8} {er : Int} (h : WrS T S B w g xs er) : WrAt T B w g xs er := by
  obtain ⟨hB, -, v, h1, h2, -⟩ := h
  exact ⟨hB, v, h1, h2⟩
theorem wrS_new (T : TypeId) (w : World) : WrS T (· < w.heap.size) w.heap.size (w.alloc (.cells #[.slice none 0 0, .int .i64 0] T)) w.heap.size [] 0 :=
  ⟨Nat.le_refl _, by simp, _, blk_new w _, World.ownsRow_nil _ _ _ _, fun k hk => by simp [Value.ownBlock] at hk⟩

theorem newWriter_any (w : World) :
    Calls Try.prog 51 #[] w fun e w' => e = .returned (.pointer (some ⟨w.heap.size, 0, none⟩)) ∧ w' = w.alloc (.cells #[.slice none 0 0, .int .i64 0] 142) := by
  go_enter Try.func51, Try.ntmps51
  go_wp2
  go_ret
  exact ⟨rfl, rfl⟩
theorem wrAt_new (T : TypeId) (w : World) : WrAt T w.heap.size (w.alloc (.cells #[.slice none 0 0, .int .i64 0] T)) w.heap.size [] 0 :=
  ⟨Nat.le_refl _, _, blk_new w _, World.ownsRow_nil _ _ _ _⟩

theorem be_drop (n size : Nat) (h : size ≤ 8) : (be 8 n).drop (8 - size) = be size n := by
  have hs : size = 0 ∨ size = 1 ∨ size = 2 ∨ size = 3 ∨ size = 4 ∨ size = 5 ∨ size = 6 ∨ size = 7 ∨ size = 8 := by omega
  rcases hs with rfl | rfl | rfl | rfl | rfl | rfl | rfl | rfl | rfl <;> rfl

/-- A row of bytes is no block of another type. -/
theorem own_ne {w : World} {B size n : Nat} {e t : TypeId} {v : Value} {xs : List Value} {g : Nat} {cs : Array Value} (h : w.ownsRow B e size v n xs) (hg : w.heap[g]? = some (.cells cs t (0, 0))) (hne : e ≠ t) : v.ownBlock ≠ some g := by
  rcases h.2 with ⟨rfl, _⟩ | ⟨g', cap, cur, rfl, _, hh, _⟩
  · simp [Value.ownBlock]
  · intro he
    obtain rfl : g' = g := by simpa [Value.ownBlock] using he
    rw [hh] at hg
    injection hg with hg
    injection hg with _ ht
    exact hne ht
theorem blk_put {w : World} {g : Nat} {x y : Value} {t : TypeId} (h : w.heap[g]? = some (.cells #[x, y] t (0, 0))) (u : Value) : (w.setCell ⟨g, 0, none⟩ u).heap[g]? = some (.cells #[u, y] t (0, 0)) := by
  simp [World.setCell, Array.getElem?_modify, h]
theorem blk_put1 {w : World} {g : Nat} {x y : Value} {t : TypeId} (h : w.heap[g]? = some (.cells #[x, y] t (0, 0))) (u : Value) : (w.setCell ⟨g, 1, none⟩ u).heap[g]? = some (.cells #[x, u] t (0, 0)) := by
  simp [World.setCell, Array.getElem?_modify, h]
theorem own_put {w : World} {B size n g k : Nat} {e t : TypeId} {v : Value} {xs : List Value} {cs : Array Value} (h : w.ownsRow B e size v n xs) (hg : w.heap[g]? = some (.cells cs t (0, 0))) (hne : e ≠ t) (u : Value) : (w.setCell ⟨g, k, none⟩ u).ownsRow B e size v n xs := by
  refine h.kept (row := some g) ⟨?_, ?_, ?_, ?_, ?_⟩ (.inr (own_ne h hg hne))
  · rfl
  · rfl
  · rfl
  · simp [World.setCell]
  · intro i hi hne
    exact Below.heap_setCell w ⟨g, k, none⟩ u i (fun e => hne (by rw [e]))
theorem wr_put {T : TypeId} {B g n : Nat} {w : World} {v v' : Value} {er : Int} {ys : List UInt8} (hblk : w.heap[g]? = some (.cells #[v, .int .i64 er] T (0, 0))) (hT : 5 ≠ T) (hn : n = ys.length) (hown : w.ownsRow B 5 1 v' n (byteCells ys)) (hB : B ≤ g) :
    WrAt T B (w.setCell ⟨g, 0, none⟩ v') g ys er :=
  ⟨hB, v', blk_put hblk v', by rw [← hn]; exact own_put hown hblk hT v'⟩
/-- Across an append to the writer's row its own block stands. -/
theorem wr_grown {T : TypeId} {B g n : Nat} {W w3 : World} {v x : Value} {xs : List Value} (hblk : W.heap[g]? = some (.cells #[v, x] T (0, 0))) (hT : 5 ≠ T) (hown : W.ownsRow B 5 1 v n xs) (hg3 : W.grownBy w3 v.ownBlock) :
    w3.heap[g]? = some (.cells #[v, x] T (0, 0)) :=
  (hg3.block g (Array.getElem?_eq_some_iff.1 hblk).1 (fun e => own_ne hown hblk hT e.symm)).trans hblk
theorem own_blk_ge {w : World} {B size n : Nat} {e : TypeId} {v : Value} {xs : List Value} (h : w.ownsRow B e size v n xs) : ∀ k, v.ownBlock = some k → B ≤ k := by
  intro k hk
  rcases h.2 with ⟨rfl, _⟩ | ⟨g', cap, cur, rfl, hb, _⟩
  · simp [Value.ownBlock] at hk
  · obtain rfl : g' = k := by simpa [Value.ownBlock] using hk
    exact hb

theorem byteCells_append (a b : List UInt8) : byteCells (a ++ b) = byteCells a ++ byteCells b := by simp [byteCells]

theorem same_grownO {S : Nat → Prop} {w w' : World} {r : Option Nat} (h : w.grownBy w' r) (hr : ∀ k, r = some k → ¬ S k) : Same S w w' :=
  ⟨h.size, fun b hs hb => h.block b hb fun e => hr b e.symm hs⟩
/-- The writer's block and row lie still where nothing of theirs is touched. -/
theorem WrS.keep {T : TypeId} {S : Nat → Prop} {B : Nat} {w w' : World} {g : Nat} {xs : List UInt8} {er : Int} (h : WrS T S B w g xs er) (hb : Below w.heap.size w w') : WrS T S B w' g xs er := by
  obtain ⟨hB, hS, v, h1, h2, h3⟩ := h
  exact ⟨hB, hS, v, blk_keep hb h1, own_keep h2 hb, h3⟩
theorem own_blk_lt {w : World} {B size n : Nat} {e : TypeId} {v : Value} {xs : List Value} (h : w.ownsRow B e size v n xs) : ∀ k, v.ownBlock = some k → k < w.heap.size := by
  intro k hk
  rcases h.2 with ⟨rfl, _⟩ | ⟨g', cap, cur, rfl, hb, hh, _⟩
  · simp [Value.ownBlock] at hk
  · obtain rfl : g' = k := by simpa [Value.ownBlock] using hk
    exact (Array.getElem?_eq_some_iff.1 hh).1
/-- More is set apart: what is new. -/
theorem WrS.grow {T : TypeId} {S : Nat → Prop} {B : Nat} {w w' : World} {g : Nat} {xs : List UInt8} {er : Int} (h : WrS T S B w g xs er) (hb : Below w.heap.size w w') : WrS T (fun b => S b ∨ w.heap.size ≤ b ∧ b < w'.heap.size) B w' g xs er := by
  obtain ⟨hB, hS, v, h1, h2, h3⟩ := h
  have hg := (Array.getElem?_eq_some_iff.1 h1).1
  refine ⟨hB, fun h => ?_, v, blk_keep hb h1, own_keep h2 hb, fun k hk h => ?_⟩
  · rcases h with h | h
    · exact hS h
    · omega
  · have := own_blk_lt h2 k hk
    rcases h with h | h
    · exact h3 k hk h
    · omega
theorem WrS.mono {T : TypeId} {S S' : Nat → Prop} {B : Nat} {w : World} {g : Nat} {xs : List UInt8} {er : Int} (h : WrS T S B w g xs er) (hS : ∀ b, S' b → S b) : WrS T S' B w g xs er := by
  obtain ⟨hB, h0, v, h1, h2, h3⟩ := h
  exact ⟨hB, fun h => h0 (hS _ h), v, h1, h2, fun k hk h => h3 k hk (hS _ h)⟩
end Go.Proofs.Ytoaoldhajpbenaa
