/- Facts about memory that all walks of this seat lean on: rows of cells, bytes, what a later world keeps. No statement is proved here. -/
import Derived.WalkKit
import Derived.WalkSpells
import Derived.WalkLawsBesides
import Derived.Deep.QuietTactic
import Derived.BigQuiet
import Derived.Maps.AppendAt
import Derived.Deep.AppendLies
import Derived.Lib.Hide
import Derived.KernelRfl
namespace Go.Proofs.YtmehjcimohhopaaDoor
open Go.RowKit

theorem below_drewN {B : Nat} {a w : World} (h : Below B a w) (n : Nat) : Below B a (w.drewN n) := ⟨h.os, h.tape, h.output, h.size, h.block⟩

theorem below_of_drew {B : Nat} {w w' : World} (h : Below B w.drew w') : Below B w w' := ⟨h.os, h.tape, h.output, h.size, h.block⟩
theorem below_of_drewN {B : Nat} {w w' : World} {n : Nat} (h : Below B (w.drewN n) w') : Below B w w' := ⟨h.os, h.tape, h.output, h.size, h.block⟩

theorem below_next {B : Nat} {a b c : World} (h : Below B a b) (k : Below b.heap.size b c) (hB : B ≤ b.heap.size) : Below B a c := h.trans (k.mono hB)

theorem below_then {a b c : World} (h : Below a.heap.size a b) (k : Below b.heap.size b c) : Below a.heap.size a c := h.trans (k.mono h.size)

theorem below_alloc {w W : World} (h : Below w.heap.size w W) (o : Obj) : Below w.heap.size w (W.alloc o) := h.alloc h.size o

theorem block_lt {w : World} {a : Addr} {v : Value} (h : w.cell? a = some v) : a.block < w.heap.size := World.block_lt_of_cell? w a h

theorem cell_keep {w w' : World} (hb : Below w.heap.size w w') {a : Addr} {v : Value} (h : w.cell? a = some v) : w'.cell? a = some v := (hb.cell (block_lt h)).trans h

/-- The two rules that the walk takes out of a 'Below'. -/
theorem bcell {W w1 : World} (hb : Below W.heap.size W w1) : (∀ b o, b < W.heap.size → w1.cell? ⟨b, o, none⟩ = W.cell? ⟨b, o, none⟩) ∧ (∀ b o, b < W.heap.size → w1.frozen? ⟨b, o, none⟩ = W.frozen? ⟨b, o, none⟩) :=
  ⟨fun b o h => hb.cell (p := ⟨b, o, none⟩) h, fun b o h => hb.frozen (p := ⟨b, o, none⟩) h⟩

theorem add_plain (b o j : Nat) : (⟨b, o, none⟩ : Addr).add j = ⟨b, o + j, none⟩ := by unfold Addr.add; split <;> simp_all

/-! Blocks that are known whole. -/
theorem blk_keep {W w1 : World} (hb : Below W.heap.size W w1) {b : Nat} {o : Obj} (h : W.heap[b]? = some o) : w1.heap[b]? = some o :=
  (hb.block b (Array.getElem?_eq_some_iff.1 h).1).trans h
theorem blk_new (w : World) (o : Obj) : (w.alloc o).heap[w.heap.size]? = some o := heap_alloc_new w o
theorem blk_alloc {w : World} {b : Nat} {o : Obj} (h : w.heap[b]? = some o) (o' : Obj) : (w.alloc o').heap[b]? = some o :=
  (Below.heap_alloc w o' b (Array.getElem?_eq_some_iff.1 h).1).trans h
theorem size_setCell (w : World) (p : Addr) (v : Value) : (w.setCell p v).heap.size = w.heap.size := by simp [World.setCell]
theorem blk_set_alloc (w : World) (p : Addr) (v : Value) (o : Obj) : ((w.setCell p v).alloc o).heap[w.heap.size]? = some o := by
  have := blk_new (w.setCell p v) o
  rwa [size_setCell] at this
theorem cell_set_alloc (w : World) (p : Addr) (v : Value) (cs : Array Value) (t : TypeId) (k : Nat) (u : Value) (h : cs[k]? = some u) : ((w.setCell p v).alloc (.cells cs t)).drew.cell? ⟨w.heap.size, k, none⟩ = some u := by
  show ((w.setCell p v).alloc (.cells cs t)).cell? ⟨w.heap.size, k, none⟩ = some u
  unfold World.cell?
  rw [blk_set_alloc]
  exact h
theorem blk_drewN {w : World} {b : Nat} {o : Obj} (h : w.heap[b]? = some o) (n : Nat) : (w.drewN n).heap[b]? = some o := h
theorem cells1 {w : World} {b : Nat} {x : Value} {t : TypeId} (h : w.heap[b]? = some (.cells #[x] t (0, 0))) :
    w.cell? ⟨b, 0, none⟩ = some x ∧ w.frozen? ⟨b, 0, none⟩ = false := by simp [World.cell?, World.frozen?, h]
theorem cells2 {w : World} {b : Nat} {x y : Value} {t : TypeId} (h : w.heap[b]? = some (.cells #[x, y] t (0, 0))) :
    w.cell? ⟨b, 0, none⟩ = some x ∧ w.cell? ⟨b, 1, none⟩ = some y ∧ w.frozen? ⟨b, 0, none⟩ = false ∧ w.frozen? ⟨b, 1, none⟩ = false := by simp [World.cell?, World.frozen?, h]
theorem cells3 {w : World} {b : Nat} {x y z : Value} {t : TypeId} (h : w.heap[b]? = some (.cells #[x, y, z] t (0, 0))) :
    w.cell? ⟨b, 0, none⟩ = some x ∧ w.cell? ⟨b, 1, none⟩ = some y ∧ w.cell? ⟨b, 2, none⟩ = some z ∧ w.frozen? ⟨b, 0, none⟩ = false ∧ w.frozen? ⟨b, 1, none⟩ = false ∧ w.frozen? ⟨b, 2, none⟩ = false := by simp [World.cell?, World.frozen?, h]
theorem cells5 {w : World} {b : Nat} {x y z u v : Value} {t : TypeId} (h : w.heap[b]? = some (.cells #[x, y, z, u, v] t (0, 0))) :
    w.cell? ⟨b, 0, none⟩ = some x ∧ w.cell? ⟨b, 1, none⟩ = some y ∧ w.cell? ⟨b, 2, none⟩ = some z ∧ w.cell? ⟨b, 3, none⟩ = some u ∧ w.cell? ⟨b, 4, none⟩ = some v ∧
    w.frozen? ⟨b, 0, none⟩ = false ∧ w.frozen? ⟨b, 1, none⟩ = false ∧ w.frozen? ⟨b, 2, none⟩ = false ∧ w.frozen? ⟨b, 3, none⟩ = false ∧ w.frozen? ⟨b, 4, none⟩ = false := by simp [World.cell?, World.frozen?, h]

/-! What lies in the blocks S is as it was. -/
structure Same (S : Nat → Prop) (w w' : World) : Prop where
  size : w.heap.size ≤ w'.heap.size
  block : ∀ b, S b → b < w.heap.size → w'.heap[b]? = w.heap[b]?
theorem Same.refl (S : Nat → Prop) (w : World) : Same S w w := ⟨Nat.le_refl _, fun _ _ _ => rfl⟩
theorem Same.trans {S : Nat → Prop} {a b c : World} (h : Same S a b) (k : Same S b c) : Same S a c :=
  ⟨Nat.le_trans h.size k.size, fun i hs hi => (k.block i hs (Nat.lt_of_lt_of_le hi h.size)).trans (h.block i hs hi)⟩
theorem Same.mono {S T : Nat → Prop} {a b : World} (h : Same S a b) (hT : ∀ i, T i → S i) : Same T a b := ⟨h.size, fun i hs hi => h.block i (hT i hs) hi⟩
theorem Same.of_below {B : Nat} {w w' : World} (hb : Below B w w') : Same (· < B) w w' := ⟨hb.size, fun b hs _ => hb.block b hs⟩
theorem Same.of_below' {w w' : World} (hb : Below w.heap.size w w') (S : Nat → Prop) : Same S w w' := ⟨hb.size, fun b _ hs => hb.block b hs⟩
theorem Same.setCell {S : Nat → Prop} {a w : World} (h : Same S a w) {p : Addr} (hp : ¬ S p.block) (u : Value) : Same S a (w.setCell p u) :=
  ⟨by simp [World.setCell]; exact h.size, fun b hs hi => (Below.heap_setCell w p u b (fun e => hp (e ▸ hs))).trans (h.block b hs hi)⟩
theorem Same.alloc {S : Nat → Prop} {a w : World} (h : Same S a w) (o : Obj) : Same S a (w.alloc o) :=
  ⟨by simp; have := h.size; omega, fun b hs hi => (Below.heap_alloc w o b (Nat.lt_of_lt_of_le hi h.size)).trans (h.block b hs hi)⟩
theorem Same.drewN {S : Nat → Prop} {a w : World} (h : Same S a w) (n : Nat) : Same S a (w.drewN n) := ⟨h.size, h.block⟩
theorem Same.drew {S : Nat → Prop} {a w : World} (h : Same S a w) : Same S a w.drew := ⟨h.size, h.block⟩
theorem Same.cell {S : Nat → Prop} {w w' : World} (h : Same S w w') {p : Addr} {v : Value} (hp : S p.block) (hc : w.cell? p = some v) : w'.cell? p = some v := by
  have := World.cell?_of_block (w := w) (h.block p.block hp (block_lt hc))
  rw [this, hc]

/-- 'v' is a slice of 'n' elements of 'sz' cells each, in a block of S; its cells are 'cs'. -/
def RowAt (S : Nat → Prop) (w : World) (v : Value) (n sz : Nat) (cs : List Value) : Prop :=
  cs.length = n * sz ∧
  ((n = 0 ∧ (v = .slice none 0 0 ∨ ∃ a c, v = .slice (some a) 0 c)) ∨ ∃ b o c, v = .slice (some ⟨b, o, none⟩) n c ∧ n ≤ c ∧ c ≤ maxLen ∧ S b ∧ b < w.heap.size ∧ ∀ i u, cs[i]? = some u → w.cell? ⟨b, o + i, none⟩ = some u)

section
variable {S T : Nat → Prop} {w w' : World} {v : Value} {n sz : Nat} {cs : List Value}
theorem RowAt.keepS (h : RowAt S w v n sz cs) (hs : Same S w w') : RowAt S w' v n sz cs := by
  obtain ⟨hl, h | ⟨b, o, c, rfl, hn, hc, hS, hlt, hcell⟩⟩ := h
  · exact ⟨hl, .inl h⟩
  · exact ⟨hl, .inr ⟨b, o, c, rfl, hn, hc, hS, Nat.lt_of_lt_of_le hlt hs.size, fun i u hu => hs.cell (p := ⟨b, o + i, none⟩) hS (hcell i u hu)⟩⟩
theorem RowAt.keep (h : RowAt S w v n sz cs) (hb : Below w.heap.size w w') : RowAt S w' v n sz cs := h.keepS (Same.of_below' hb S)
theorem RowAt.mono (h : RowAt S w v n sz cs) (hT : ∀ b, b < w.heap.size → S b → T b) : RowAt T w v n sz cs := by
  obtain ⟨hl, h | ⟨b, o, c, rfl, hn, hc, hS, hlt, hcell⟩⟩ := h
  · exact ⟨hl, .inl h⟩
  · exact ⟨hl, .inr ⟨b, o, c, rfl, hn, hc, hT b hlt hS, hlt, hcell⟩⟩
theorem RowAt.of_own {base : Nat} {e : TypeId} (h : w.ownsRow base e sz v n cs) : RowAt (base ≤ ·) w v n sz cs := by
  refine ⟨h.1, ?_⟩
  rcases h.2 with h' | ⟨g, cap, cur, rfl, hb, hg, hn, hc, hs, ht⟩
  · exact .inl ⟨h'.2, .inl h'.1⟩
  · refine .inr ⟨g, 0, cap, rfl, hn, hc, hb, (Array.getElem?_eq_some_iff.1 hg).1, fun i u hu => ?_⟩
    have hi : i < n * sz := by
      have := (List.getElem?_eq_some_iff.1 hu).1
      rw [← ht] at this
      simp at this
      omega
    have := h.cellAt (g := g) i hi
    rw [Nat.zero_add, this, hu]
theorem RowAt.slice (h : RowAt S w v n sz cs) : ∃ A c, v = .slice A n c := by
  rcases h.2 with ⟨rfl, rfl | ⟨a, c, rfl⟩⟩ | ⟨b, o, c, rfl, _⟩
  · exact ⟨none, 0, rfl⟩
  · exact ⟨_, c, rfl⟩
  · exact ⟨_, c, rfl⟩
/-- Where there is an element, the slice leads to memory. -/
theorem RowAt.form (h : RowAt S w v n sz cs) (hn : 0 < n) :
    ∃ b o c, v = .slice (some ⟨b, o, none⟩) n c ∧ n ≤ c ∧ c ≤ maxLen ∧ S b ∧ b < w.heap.size ∧ ∀ i u, cs[i]? = some u → w.cell? ⟨b, o + i, none⟩ = some u := by
  rcases h.2 with ⟨h0, _⟩ | h
  · omega
  · exact h
theorem RowAt.le (h : RowAt S w v n sz cs) : n ≤ maxLen := by
  rcases h.2 with ⟨h0, _⟩ | ⟨b, o, c, _, hn, hc, _⟩
  · omega
  · omega
end

theorem below_of_grown {W w6 : World} (hg : W.grownBy w6 none) : Below W.heap.size W w6 := ⟨hg.os, hg.tape, hg.output, hg.size, fun i hi => hg.block i hi (by simp)⟩
theorem own_keep {w w1 : World} {base : Nat} {e : TypeId} {size n : Nat} {v : Value} {xs : List Value} (h : w.ownsRow base e size v n xs) (hb : Below w.heap.size w w1) : w1.ownsRow base e size v n xs :=
  h.kept (row := none) ⟨hb.os, hb.tape, hb.output, hb.size, fun i hi _ => hb.block i hi⟩ (by cases v.ownBlock <;> simp)

/-- A piece of a row. -/
theorem RowAt.cut {S : Nat → Prop} {w : World} {b o n c sz : Nat} {cs : List Value} (h : RowAt S w (.slice (some ⟨b, o, none⟩) n c) n sz cs) (lo k c' : Nat) (h2 : lo + k ≤ n) (hc : k ≤ c') (hc' : c' ≤ maxLen) :
    RowAt S w (.slice (some ⟨b, o + lo * sz, none⟩) k c') k sz ((cs.drop (lo * sz)).take (k * sz)) := by
  obtain ⟨hl, h | ⟨b', o', c1, hv, hn, hcm, hS, hlt, hcell⟩⟩ := h
  · have hk : k = 0 := by omega
    subst hk
    exact ⟨by simp, .inl ⟨rfl, .inr ⟨_, _, rfl⟩⟩⟩
  · injection hv with hv _ _
    injection hv with hv
    injection hv with e1 e2 _
    subst e1 e2
    have hm : (lo + k) * sz ≤ n * sz := Nat.mul_le_mul_right sz h2
    rw [Nat.add_mul] at hm
    refine ⟨by simp; omega, .inr ⟨b, _, c', rfl, hc, hc', hS, hlt, fun i u hu => ?_⟩⟩
    rw [List.getElem?_take] at hu
    split at hu
    · rw [List.getElem?_drop] at hu
      have := hcell _ _ hu
      rwa [← Nat.add_assoc] at this
    · cases hu

/-! Bytes. -/
def byteCells (xs : List UInt8) : List Value := xs.map fun x => .int .u8 x.toNat
def Bytes (S : Nat → Prop) (w : World) (v : Value) (xs : List UInt8) : Prop := RowAt S w v xs.length 1 (byteCells xs)
theorem Bytes.keepS {S : Nat → Prop} {w w' : World} {v : Value} {xs : List UInt8} (h : Bytes S w v xs) (hs : Same S w w') : Bytes S w' v xs := RowAt.keepS h hs
theorem Bytes.keep {S : Nat → Prop} {w w' : World} {v : Value} {xs : List UInt8} (h : Bytes S w v xs) (hb : Below w.heap.size w w') : Bytes S w' v xs := RowAt.keep h hb
theorem Bytes.mono {S T : Nat → Prop} {w : World} {v : Value} {xs : List UInt8} (h : Bytes S w v xs) (hT : ∀ b, b < w.heap.size → S b → T b) : Bytes T w v xs := RowAt.mono h hT
theorem Bytes.slice {S : Nat → Prop} {w : World} {v : Value} {xs : List UInt8} (h : Bytes S w v xs) : ∃ A c, v = .slice A xs.length c := RowAt.slice h
theorem byteCells_length (xs : List UInt8) : (byteCells xs).length = xs.length := by simp [byteCells]
theorem byteCells_one (xs : List UInt8) : ∀ u ∈ byteCells xs, u.oneCell' = true := by
  intro u hu
  simp only [byteCells, List.mem_map] at hu
  obtain ⟨x, _, rfl⟩ := hu
  rfl
theorem byteCells_get (xs : List UInt8) (i : Nat) (h : i < xs.length) : (byteCells xs)[i]? = some (.int .u8 (xs[i].toNat)) := by simp [byteCells, h]

end Go.Proofs.YtmehjcimohhopaaDoor
