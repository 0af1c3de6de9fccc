/- Texts that belong together, in one file: Base, EntA, FldA, EntB, FldB, FldE, FldF. No statement is proved here. -/
import Derived.WalkKit
import Derived.WalkSpells
import Derived.WalkLawsBesides
import Derived.Deep.QuietTactic
import Derived.BigQuiet
import Derived.Maps.AppendAt
import Derived.Deep.AppendLies
import Derived.Lib.Hide
import Derived.KernelRfl
import Derived.Test.YtahagecdebadfaaGreatChecked
import Derived.Handy
import Derived.Laws.Bits64b
import Derived.Deep.RegionLaw
import Derived.Lib.AppendZerosOnto
import Derived.Lib.SliceRun
namespace Go.Proofs.YtahagecdebadfaaGreat
open Go.RowKit

theorem below_drewN {B : Nat} {a w : World} (h : Below B a w) (n : Nat) : Below B a (w.drewN n) := ⟨h.os, h.tape, h.output, h.size, h.block⟩

theorem below_of_drew {B : Nat} {w w' : World} (h : Below B w.drew w') : Below B w w' := ⟨h.os, h.tape, h.output, h.size, h.block⟩
theorem below_of_drewN {B : Nat} {w w' : World} {n : Nat} (h : Below B (w.drewN n) w') : Below B w w' := ⟨h.os, h.tape, h.output, h.size, h.block⟩

theorem below_next {B : Nat} {a b c : World} (h : Below B a b) (k : Below b.heap.size b c) (hB : B ≤ b.heap.size) : Below B a c := h.trans (k.mono hB)

theorem below_then {a b c : World} (h : Below a.heap.size a b) (k : Below b.heap.size b c) : Below a.heap.size a c := h.trans (k.mono h.size)

theorem below_alloc {w W : World} (h : Below w.heap.size w W) (o : Obj) : Below w.heap.size w (W.alloc o) := h.alloc h.size o

theorem block_lt {w : World} {a : Addr} {v : Value} (h : w.cell? a = some v) : a.block < w.heap.size := World.block_lt_of_cell? w a h

theorem cell_keep {w w' : World} (hb : Below w.heap.size w w') {a : Addr} {v : Value} (h : w.cell? a = some v) : w'.cell? a = some v := (hb.cell (block_lt h)).trans h

/-- The two rules that the walk takes out of a 'Below'. -/
theorem bcell {W w1 : World} (hb : Below W.heap.size W w1) : (∀ b o, b < W.heap.size → w1.cell? ⟨b, o, none⟩ = W.cell? ⟨b, o, none⟩) ∧ (∀ b o, b < W.heap.size → w1.frozen? ⟨b, o, none⟩ = W.frozen? ⟨b, o, none⟩) :=
  ⟨fun b o h => hb.cell (p := ⟨b, o, none⟩) h, fun b o h => hb.frozen (p := ⟨b, o, none⟩) h⟩

theorem add_plain (b o j : Nat) : (⟨b, o, none⟩ : Addr).add j = ⟨b, o + j, none⟩ := by unfold Addr.add; split <;> simp_all

/-! Blocks that are known whole. -/
theorem blk_keep {W w1 : World} (hb : Below W.heap.size W w1) {b : Nat} {o : Obj} (h : W.heap[b]? = some o) : w1.heap[b]? = some o :=
  (hb.block b (Array.getElem?_eq_some_iff.1 h).1).trans h
theorem blk_new (w : World) (o : Obj) : (w.alloc o).heap[w.heap.size]? = some o := heap_alloc_new w o
theorem blk_alloc {w : World} {b : Nat} {o : Obj} (h : w.heap[b]? = some o) (o' : Obj) : (w.alloc o').heap[b]? = some o :=
  (Below.heap_alloc w o' b (Array.getElem?_eq_some_iff.1 h).1).trans h
theorem size_setCell (w : World) (p : Addr) (v : Value) : (w.setCell p v).heap.size = w.heap.size := by simp [World.setCell]
theorem blk_set_alloc (w : World) (p : Addr) (v : Value) (o : Obj) : ((w.setCell p v).alloc o).heap[w.heap.size]? = some o := by
  have := blk_new (w.setCell p v) o
  rwa [size_setCell] at this
theorem cell_set_alloc (w : World) (p : Addr) (v : Value) (cs : Array Value) (t : TypeId) (k : Nat) (u : Value) (h : cs[k]? = some u) : ((w.setCell p v).alloc (.cells cs t)).drew.cell? ⟨w.heap.size, k, none⟩ = some u := by
  show ((w.setCell p v).alloc (.cells cs t)).cell? ⟨w.heap.size, k, none⟩ = some u
  unfold World.cell?
  rw [blk_set_alloc]
  exact h
theorem blk_drewN {w : World} {b : Nat} {o : Obj} (h : w.heap[b]? = some o) (n : Nat) : (w.drewN n).heap[b]? = some o := h
theorem cells1 {w : World} {b : Nat} {x : Value} {t : TypeId} (h : w.heap[b]? = some (.cells #[x] t (0, 0))) :
    w.cell? ⟨b, 0, none⟩ = some x ∧ w.frozen? ⟨b, 0, none⟩ = false := by simp [World.cell?, World.frozen?, h]
theorem cells2 {w : World} {b : Nat} {x y : Value} {t : TypeId} (h : w.heap[b]? = some (.cells #[x, y] t (0, 0))) :
    w.cell? ⟨b, 0, none⟩ = some x ∧ w.cell? ⟨b, 1, none⟩ = some y ∧ w.frozen? ⟨b, 0, none⟩ = false ∧ w.frozen? ⟨b, 1, none⟩ = false := by simp [World.cell?, World.frozen?, h]
theorem cells3 {w : World} {b : Nat} {x y z : Value} {t : TypeId} (h : w.heap[b]? = some (.cells #[x, y, z] t (0, 0))) :
    w.cell? ⟨b, 0, none⟩ = some x ∧ w.cell? ⟨b, 1, none⟩ = some y ∧ w.cell? ⟨b, 2, none⟩ = some z ∧ w.frozen? ⟨b, 0, none⟩ = false ∧ w.frozen? ⟨b, 1, none⟩ = false ∧ w.frozen? ⟨b, 2, none⟩ = false := by simp [World.cell?, World.frozen?, h]
theorem cells5 {w : World} {b : Nat} {x y z u v : Value} {t : TypeId} (h : w.heap[b]? = some (.cells #[x, y, z, u, v] t (0, 0))) :
    w.cell? ⟨b, 0, none⟩ = some x ∧ w.cell? ⟨b, 1, none⟩ = some y ∧ w.cell? ⟨b, 2, none⟩ = some z ∧ w.cell? ⟨b, 3, none⟩ = some u ∧ w.cell? ⟨b, 4, none⟩ = some v ∧
    w.frozen? ⟨b, 0, none⟩ = false ∧ w.frozen? ⟨b, 1, none⟩ = false ∧ w.frozen? ⟨b, 2, none⟩ = false ∧ w.frozen? ⟨b, 3, none⟩ = false ∧ w.frozen? ⟨b, 4, none⟩ = false := by simp [World.cell?, World.frozen?, h]

/-! What lies in the blocks S is as it was. -/
structure Same (S : Nat → Prop) (w w' : World) : Prop where
  size : w.heap.size ≤ w'.heap.size
  block : ∀ b, S b → b < w.heap.size → w'.heap[b]? = w.heap[b]?
theorem Same.refl (S : Nat → Prop) (w : World) : Same S w w := ⟨Nat.le_refl _, fun _ _ _ => rfl⟩
theorem Same.trans {S : Nat → Prop} {a b c : World} (h : Same S a b) (k : Same S b c) : Same S a c :=
  ⟨Nat.le_trans h.size k.size, fun i hs hi => (k.block i hs (Nat.lt_of_lt_of_le hi h.size)).trans (h.block i hs hi)⟩
theorem Same.mono {S T : Nat → Prop} {a b : World} (h : Same S a b) (hT : ∀ i, T i → S i) : Same T a b := ⟨h.size, fun i hs hi => h.block i (hT i hs) hi⟩
theorem Same.of_below {B : Nat} {w w' : World} (hb : Below B w w') : Same (· < B) w w' := ⟨hb.size, fun b hs _ => hb.block b hs⟩
theorem Same.of_below' {w w' : World} (hb : Below w.heap.size w w') (S : Nat → Prop) : Same S w w' := ⟨hb.size, fun b _ hs => hb.block b hs⟩
theorem Same.setCell {S : Nat → Prop} {a w : World} (h : Same S a w) {p : Addr} (hp : ¬ S p.block) (u : Value) : Same S a (w.setCell p u) :=
  ⟨by simp [World.setCell]; exact h.size, fun b hs hi => (Below.heap_setCell w p u b (fun e => hp (e ▸ hs))).trans (h.block b hs hi)⟩
theorem Same.alloc {S : Nat → Prop} {a w : World} (h : Same S a w) (o : Obj) : Same S a (w.alloc o) :=
  ⟨by simp; have := h.size; omega, fun b hs hi => (Below.heap_alloc w o b (Nat.lt_of_lt_of_le hi h.size)).trans (h.block b hs hi)⟩
theorem Same.drewN {S : Nat → Prop} {a w : World} (h : Same S a w) (n : Nat) : Same S a (w.drewN n) := ⟨h.size, h.block⟩
theorem Same.drew {S : Nat → Prop} {a w : World} (h : Same S a w) : Same S a w.drew := ⟨h.size, h.block⟩
theorem Same.cell {S : Nat → Prop} {w w' : World} (h : Same S w w') {p : Addr} {v : Value} (hp : S p.block) (hc : w.cell? p = some v) : w'.cell? p = some v := by
  have := World.cell?_of_block (w := w) (h.block p.block hp (block_lt hc))
  rw [this, hc]

/-- 'v' is a slice of 'n' elements of 'sz' cells each, in a block of S; its cells are 'cs'. -/
def RowAt (S : Nat → Prop) (w : World) (v : Value) (n sz : Nat) (cs : List Value) : Prop :=
  cs.length = n * sz ∧
  ((n = 0 ∧ (v = .slice none 0 0 ∨ ∃ a c, v = .slice (some a) 0 c)) ∨ ∃ b o c, v = .slice (some ⟨b, o, none⟩) n c ∧ n ≤ c ∧ c ≤ maxLen ∧ S b ∧ b < w.heap.size ∧ ∀ i u, cs[i]? = some u → w.cell? ⟨b, o + i, none⟩ = some u)

section
variable {S T : Nat → Prop} {w w' : World} {v : Value} {n sz : Nat} {cs : List Value}
theorem RowAt.keepS (h : RowAt S w v n sz cs) (hs : Same S w w') : RowAt S w' v n sz cs := by
  obtain ⟨hl, h | ⟨b, o, c, rfl, hn, hc, hS, hlt, hcell⟩⟩ := h
  · exact ⟨hl, .inl h⟩
  · exact ⟨hl, .inr ⟨b, o, c, rfl, hn, hc, hS, Nat.lt_of_lt_of_le hlt hs.size, fun i u hu => hs.cell (p := ⟨b, o + i, none⟩) hS (hcell i u hu)⟩⟩
theorem RowAt.keep (h : RowAt S w v n sz cs) (hb : Below w.heap.size w w') : RowAt S w' v n sz cs := h.keepS (Same.of_below' hb S)
theorem RowAt.mono (h : RowAt S w v n sz cs) (hT : ∀ b, b < w.heap.size → S b → T b) : RowAt T w v n sz cs := by
  obtain ⟨hl, h | ⟨b, o, c, rfl, hn, hc, hS, hlt, hcell⟩⟩ := h
  · exact ⟨hl, .inl h⟩
  · exact ⟨hl, .inr ⟨b, o, c, rfl, hn, hc, hT b hlt hS, hlt, hcell⟩⟩
theorem RowAt.of_own {base : Nat} {e : TypeId} (h : w.ownsRow base e sz v n cs) : RowAt (base ≤ ·) w v n sz cs := by
  refine ⟨h.1, ?_⟩
  rcases h.2 with h' | ⟨g, cap, cur, rfl, hb, hg, hn, hc, hs, ht⟩
  · exact .inl ⟨h'.2, .inl h'.1⟩
  · refine .inr ⟨g, 0, cap, rfl, hn, hc, hb, (Array.getElem?_eq_some_iff.1 hg).1, fun i u hu => ?_⟩
    have hi : i < n * sz := by
      have := (List.getElem?_eq_some_iff.1 hu).1
      rw [← ht] at this
      simp at this
      omega
    have := h.cellAt (g := g) i hi
    rw [Nat.zero_add, this, hu]
theorem RowAt.slice (h : RowAt S w v n sz cs) : ∃ A c, v = .slice A n c := by
  rcases h.2 with ⟨rfl, rfl | ⟨a, c, rfl⟩⟩ | ⟨b, o, c, rfl, _⟩
  · exact ⟨none, 0, rfl⟩
  · exact ⟨_, c, rfl⟩
  · exact ⟨_, c, rfl⟩
/-- Where there is an element, the slice leads to memory. -/
theorem RowAt.form (h : RowAt S w v n sz cs) (hn : 0 < n) :
    ∃ b o c, v = .slice (some ⟨b, o, none⟩) n c ∧ n ≤ c ∧ c ≤ maxLen ∧ S b ∧ b < w.heap.size ∧ ∀ i u, cs[i]? = some u → w.cell? ⟨b, o + i, none⟩ = some u := by
  rcases h.2 with ⟨h0, _⟩ | h
  · omega
  · exact h
theorem RowAt.le (h : RowAt S w v n sz cs) : n ≤ maxLen := by
  rcases h.2 with ⟨h0, _⟩ | ⟨b, o, c, _, hn, hc, _⟩
  · omega
  · omega
end

theorem below_of_grown {W w6 : World} (hg : W.grownBy w6 none) : Below W.heap.size W w6 := ⟨hg.os, hg.tape, hg.output, hg.size, fun i hi => hg.block i hi (by simp)⟩
theorem own_keep {w w1 : World} {base : Nat} {e : TypeId} {size n : Nat} {v : Value} {xs : List Value} (h : w.ownsRow base e size v n xs) (hb : Below w.heap.size w w1) : w1.ownsRow base e size v n xs :=
  h.kept (row := none) ⟨hb.os, hb.tape, hb.output, hb.size, fun i hi _ => hb.block i hi⟩ (by cases v.ownBlock <;> simp)

/-- A piece of a row. -/
theorem RowAt.cut {S : Nat → Prop} {w : World} {b o n c sz : Nat} {cs : List Value} (h : RowAt S w (.slice (some ⟨b, o, none⟩) n c) n sz cs) (lo k c' : Nat) (h2 : lo + k ≤ n) (hc : k ≤ c') (hc' : c' ≤ maxLen) :
    RowAt S w (.slice (some ⟨b, o + lo * sz, none⟩) k c') k sz ((cs.drop (lo * sz)).take (k * sz)) := by
  obtain ⟨hl, h | ⟨b', o', c1, hv, hn, hcm, hS, hlt, hcell⟩⟩ := h
  · have hk : k = 0 := by omega
    subst hk
    exact ⟨by simp, .inl ⟨rfl, .inr ⟨_, _, rfl⟩⟩⟩
  · injection hv with hv _ _
    injection hv with hv
    injection hv with e1 e2 _
    subst e1 e2
    have hm : (lo + k) * sz ≤ n * sz := Nat.mul_le_mul_right sz h2
    rw [Nat.add_mul] at hm
    refine ⟨by simp; omega, .inr ⟨b, _, c', rfl, hc, hc', hS, hlt, fun i u hu => ?_⟩⟩
    rw [List.getElem?_take] at hu
    split at hu
    · rw [List.getElem?_drop] at hu
      have := hcell _ _ hu
      rwa [← Nat.add_assoc] at this
    · cases hu

/-! Bytes. -/
def byteCells (xs : List UInt8) : List Value := xs.map fun x => .int .u8 x.toNat
def Bytes (S : Nat → Prop) (w : World) (v : Value) (xs : List UInt8) : Prop := RowAt S w v xs.length 1 (byteCells xs)
theorem Bytes.keepS {S : Nat → Prop} {w w' : World} {v : Value} {xs : List UInt8} (h : Bytes S w v xs) (hs : Same S w w') : Bytes S w' v xs := RowAt.keepS h hs
theorem Bytes.keep {S : Nat → Prop} {w w' : World} {v : Value} {xs : List UInt8} (h : Bytes S w v xs) (hb : Below w.heap.size w w') : Bytes S w' v xs := RowAt.keep h hb
theorem Bytes.mono {S T : Nat → Prop} {w : World} {v : Value} {xs : List UInt8} (h : Bytes S w v xs) (hT : ∀ b, b < w.heap.size → S b → T b) : Bytes T w v xs := RowAt.mono h hT
theorem Bytes.slice {S : Nat → Prop} {w : World} {v : Value} {xs : List UInt8} (h : Bytes S w v xs) : ∃ A c, v = .slice A xs.length c := RowAt.slice h
theorem byteCells_length (xs : List UInt8) : (byteCells xs).length = xs.length := by simp [byteCells]
theorem byteCells_one (xs : List UInt8) : ∀ u ∈ byteCells xs, u.oneCell' = true := by
  intro u hu
  simp only [byteCells, List.mem_map] at hu
  obtain ⟨x, _, rfl⟩ := hu
  rfl
theorem byteCells_get (xs : List UInt8) (i : Nat) (h : i < xs.length) : (byteCells xs)[i]? = some (.int .u8 (xs[i].toNat)) := by simp [byteCells, h]

end Go.Proofs.YtahagecdebadfaaGreat

namespace Go.Proofs.YtahagecdebadfaaGreat
open Go.RowKit

def mayB (n : Int) : Bool := decide (0 ≤ n) && decide (n ≤ 1099511627776)
def maskB (n : Int) : Bool := decide (1 ≤ n) && decide (n ≤ 31)

set_option maxHeartbeats 400000 in
theorem may_any (n : Int) (w : World) :
    Calls Tryz.prog 81 #[.int .i64 n] w fun e w' => e = .returned (.bool (mayB n)) ∧ w = w' := by
  go_enter Tryz.func81, Tryz.ntmps81
  go_wp2
  all_goals go_ret
  · rename_i h; exact ⟨by simp [mayB, h], rfl⟩
  · rename_i h; exact ⟨by simp [mayB]; omega, rfl⟩

set_option maxHeartbeats 400000 in
theorem mask_any (n : Int) (w : World) :
    Calls Tryz.prog 82 #[.int .i64 n] w fun e w' => e = .returned (.bool (maskB n)) ∧ w = w' := by
  go_enter Tryz.func82, Tryz.ntmps82
  go_wp2
  all_goals go_ret
  · rename_i h; exact ⟨by simp [maskB, h], rfl⟩
  · rename_i h; exact ⟨by simp [maskB]; omega, rfl⟩

/-- An entry. -/
structure Ent where
  kind : Int
  term : Int
  cmd : List UInt8

def in64 (n : Int) : Prop := -9223372036854775808 ≤ n ∧ n ≤ 9223372036854775807

def rightB (e : Ent) : Bool :=
  decide (1 ≤ e.term) && mayB e.term && decide (e.cmd.length ≤ 4080) &&
    (decide (e.kind = 0) || decide (e.kind = 1) || (decide (e.kind = 2) && decide (e.cmd.length = 1) && maskB ((e.cmd.headD 0).toNat : Int)))

/-- The value of an entry. -/
def EntV (S : Nat → Prop) (w : World) (v : Value) (e : Ent) : Prop := ∃ b, v = .agg #[.int .i64 e.kind, .int .i64 e.term, b] ∧ Bytes S w b e.cmd

theorem box_below (w : World) (o : Obj) : Below w.heap.size w (w.alloc o) := (Below.refl _ _).alloc (Nat.le_refl _) _

set_option maxHeartbeats 1000000 in
theorem right_any (k t : Int) (v : Value) (xs : List UInt8) {S : Nat → Prop} (w : World) (hv : Bytes S w v xs) :
    Calls Tryz.prog 86 #[.agg #[.int .i64 k, .int .i64 t, v]] w fun e w' => e = .returned (.bool (rightB ⟨k, t, xs⟩)) ∧ Below w.heap.size w w' := by
  by_cases h2 : k = 2 ∧ xs.length = 1
  · obtain ⟨rfl, hl⟩ := h2
    obtain ⟨b, o, c, rfl, hn, hc, _, hb, hcell⟩ := hv.form (by omega)
    have h0 := hcell 0 _ (byteCells_get xs 0 (by omega))
    rw [Nat.add_zero] at h0
    obtain ⟨x, rfl⟩ : ∃ x, xs = [x] := List.length_eq_one_iff.1 hl
    simp only [List.length_singleton, List.getElem_cons_zero] at h0 hn ⊢
    clear hcell
    cases hm : mayB t <;> cases hk : maskB (x.toNat : Int)
    all_goals
      have hx := x.toNat_lt
      go_enter Tryz.func86, Tryz.ntmps86
      go_wp2_with (first | (go_at_call 81; refine (may_any _ _).mono ?_; rintro e w' ⟨rfl, rfl⟩) | (go_at_call 82; refine (mask_any _ _).mono ?_; rintro e w' ⟨rfl, rfl⟩))
      all_goals go_ret
      all_goals refine ⟨?_, box_below _ _⟩
      all_goals first | (simp [rightB, hm, hk]; done) | (simp [rightB, hm, hk]; omega)
  · obtain ⟨A, c, rfl⟩ := hv.slice
    have hle := hv.le
    unfold maxLen at hle
    cases hm : mayB t
    all_goals
      go_enter Tryz.func86, Tryz.ntmps86
      go_wp2_with (first | (go_at_call 81; refine (may_any _ _).mono ?_; rintro e w' ⟨rfl, rfl⟩) | (go_at_call 82; refine (mask_any _ _).mono ?_; rintro e w' ⟨rfl, rfl⟩))
      all_goals go_ret
      all_goals refine ⟨?_, box_below _ _⟩
      all_goals first | (simp [rightB, hm]; done) | (simp_all [rightB]; omega) | (simp_all [rightB]; done)
end Go.Proofs.YtahagecdebadfaaGreat

namespace Go.Proofs.YtahagecdebadfaaGreat
open Go.RowKit

/-- Byte i of a number, the lowest one first. -/
def byteOf (n i : Nat) : UInt8 := UInt8.ofNat (n / 256 ^ i)
/-- A number as so many bytes, the highest first. -/
def be : Nat → Nat → List UInt8
  | 0, _ => []
  | k + 1, n => byteOf n k :: be k n
theorem be_length : ∀ (k n : Nat), (be k n).length = k
  | 0, _ => rfl
  | k + 1, n => by simp [be, be_length k n]

/-- The eight bytes of a number, as the walk has them. -/
def num8 (n : Int) : List Value := [.int .u8 (n / 72057594037927936), .int .u8 (n / 281474976710656 % 256), .int .u8 (n / 1099511627776 % 256), .int .u8 (n / 4294967296 % 256), .int .u8 (n / 16777216 % 256), .int .u8 (n / 65536 % 256), .int .u8 (n / 256 % 256), .int .u8 (n % 256)]
theorem byteOf_nat (n i : Nat) : ((byteOf n i).toNat : Int) = (n : Int) / (256 ^ i : Nat) % 256 := by
  show ((n / 256 ^ i % 256 : Nat) : Int) = _
  omega
theorem num8_be (n : Nat) (hn : n < 18446744073709551616) : num8 n = byteCells (be 8 n) := by
  unfold num8 byteCells
  simp only [be, List.map_cons, List.map_nil, byteOf_nat]
  have h7 : (n : Int) / 72057594037927936 = (n : Int) / (256 ^ 7 : Nat) % 256 := by
    have : ((256 ^ 7 : Nat) : Int) = 72057594037927936 := by decide
    rw [this]; omega
  rw [h7]
  have e0 : (n : Int) / (256 ^ 0 : Nat) = n := by simp
  rw [e0]
  rfl

set_option maxRecDepth 100000 in
set_option maxHeartbeats 1000000 in
theorem number_any (n : Nat) (w : World) (hn : n < 18446744073709551616) :
    Calls Tryz.prog 144 #[.int .u64 n] w fun e w' => e = .returned (.agg (num8 n).toArray) ∧ Below w.heap.size w w' := by
  have hb : ∀ o o', Below w.heap.size w ((w.alloc o).alloc o') := fun o o' => (box_below w o).alloc (by simp) o'
  go_enter Tryz.func144, Tryz.ntmps144
  go_wp2
  go_rounds 9
  refine bodyPost_ret (v := .agg (num8 n).toArray) ?_ rfl ⟨rfl, hb _ _⟩
  simp [results, Tryz.results144, go_sem, num8]

def fitsB (n : Nat) (size : Int) : Bool := decide (size = 8) || decide (n < 256 ^ size.toNat)

set_option maxHeartbeats 1000000 in
theorem fits_any (n : Nat) (size : Int) (w : World) (hn : n < 18446744073709551616) (h1 : 1 ≤ size) (h2 : size ≤ 8) :
    Calls Tryz.prog 148 #[.int .u64 n, .int .i64 size] w fun e w' => e = .returned (.bool (fitsB n size)) ∧ w = w' := by
  have hs : size = 1 ∨ size = 2 ∨ size = 3 ∨ size = 4 ∨ size = 5 ∨ size = 6 ∨ size = 7 ∨ size = 8 := by omega
  rcases hs with rfl | rfl | rfl | rfl | rfl | rfl | rfl | rfl
  all_goals
    go_enter Tryz.func148, Tryz.ntmps148
    go_wp2
    go_ret
    refine ⟨?_, rfl⟩
    simp [fitsB]
  all_goals (rw [Bool.eq_iff_iff]; simp; omega)

def thereB (n : Nat) (at_ size : Int) : Bool := decide (1 ≤ size) && decide (size ≤ 8) && decide (0 ≤ at_) && decide (size ≤ n) && decide (at_ ≤ n - size)

theorem snoc_ind' {α : Type} {P : List α → Prop} (h0 : P []) (hs : ∀ l e, P l → P (l ++ [e])) (l : List α) : P l := by
  have h : ∀ r : List α, P r.reverse := by
    intro r
    induction r with
    | nil => exact h0
    | cons x r ih => rw [List.reverse_cons]; exact hs _ _ ih
  simpa using h l.reverse
/-- The number that bytes are. -/
def beVal (l : List UInt8) : Nat := l.foldl (fun a b => a * 256 + b.toNat) 0
theorem beVal_snoc (l : List UInt8) (b : UInt8) : beVal (l ++ [b]) = beVal l * 256 + b.toNat := by simp [beVal]
theorem beVal_lt (l : List UInt8) : beVal l < 256 ^ l.length := by
  refine snoc_ind' (P := fun l => beVal l < 256 ^ l.length) ?_ ?_ l
  · simp [beVal]
  · intro l b ih
    rw [beVal_snoc, List.length_append, List.length_singleton, Nat.pow_succ]
    have := b.toNat_lt
    omega

theorem or_byte (m c : Nat) (hm : m < 72057594037927936) (h : c < 2 ^ 8) : bits .or .u64 ((m : Int) * 256) (c : Int) = ((m * 256 + c : Nat) : Int) := by
  have e : (m : Int) * 256 = ((m * 256 : Nat) : Int) := by omega
  rw [e, bits_or_u64_nat _ _ (by omega) (by omega), show m * 256 = 2 ^ 8 * m by omega, ← Nat.two_pow_add_eq_or_of_lt h m]

end Go.Proofs.YtahagecdebadfaaGreat

namespace Go.Proofs.YtahagecdebadfaaGreat
open Go.RowKit

theorem infoU8 : (Tryz.prog.info? 5).map (fun i => (i.zero, i.size, i.bytes)) = some (some (.int .u8 0), 1, 1) := by kernel_rfl
theorem infoEntry : (Tryz.prog.info? 113).map (fun i => (i.zero, i.size, i.bytes)) = some (some (.agg #[.int .i64 0, .int .i64 0, .slice none 0 0]), 3, 40) := by kernel_rfl
theorem infoPart : (Tryz.prog.info? 128).map (fun i => (i.zero, i.size, i.bytes)) = some (some .nilIface, 1, 16) := by kernel_rfl

theorem own_empty (w : World) (e : TypeId) (sz : Nat) : (w.alloc (.cells #[] e)).ownsRow w.heap.size e sz (.slice (some ⟨w.heap.size, 0, none⟩) 0 0) 0 [] :=
  ⟨by simp, .inr ⟨w.heap.size, 0, #[], rfl, Nat.le_refl _, heap_alloc_new w _, Nat.le_refl _, by simp [maxLen], by simp, by simp⟩⟩

set_option maxHeartbeats 400000 in
theorem clone_bytes_nil (w : World) :
    Calls Tryz.prog 76 #[.slice none 0 0] w fun e w' => e = .returned (.slice none 0 0) ∧ w = w' := by
  have hq := @Lib.run_eql_slice_nil Tryz.prog
  go_enter Tryz.func76, Tryz.ntmps76
  go_wp2
  go_ret
  exact ⟨rfl, rfl⟩

set_option maxHeartbeats 400000 in
theorem clone_bytes_some (w : World) (b o n c : Nat) (cs : List Value) (hl : cs.length = n * 1) (hn : n ≤ c) (hc : c ≤ maxLen) (h47 : n ≤ 140737488355328) (h1 : ∀ u ∈ cs, u.oneCell' = true)
    (hcell : ∀ i u, cs[i]? = some u → w.cell? ⟨b, o + i, none⟩ = some u) :
    Calls Tryz.prog 76 #[.slice (some ⟨b, o, none⟩) n c] w fun e w' => ∃ v, e = .returned v ∧ w'.ownsRow w.heap.size 5 1 v n cs ∧ Below w.heap.size w w' := by
  have hq := @Lib.run_eql_slice_nil Tryz.prog
  obtain ⟨i0, hi, hz0, hz1, hz2⟩ := info_parts infoU8
  have HL := Lib.hid hl
  have H1 := Lib.hid h1
  have HC := Lib.hid hcell
  clear hl h1 hcell
  go_enter Tryz.func76, Tryz.ntmps76
  go_wp2_with (at_builtin; refine wpList_append_own_at _ rfl _ _ 40 rfl w.heap.size 5 i0 (.int .u8 0) 1 1 Tryz.underlying40 hi hz0 hz1 hz2 rfl (by decide) _ 0 [] rfl (own_empty _ _ _) ⟨b, o, none⟩ n c cs rfl HL.out ?hn H1.out ?hm ?h7 ?hB ?_)
  case hn => intro j u hu; rw [add_plain]; exact cell_keep (box_below _ _) (HC.out j u hu)
  case hm => omega
  case h7 => omega
  case hB => simp
  intro v' w' hown hg _ hat
  go_wp2
  go_ret
  refine ⟨v', rfl, by simpa using hown, ((box_below _ _).grown hg (by simp) ?_)⟩
  intro k hk; simp [Value.ownBlock] at hk; omega

set_option maxHeartbeats 400000 in
theorem clone_bytes_empty (w : World) (a : Addr) (c : Nat) :
    Calls Tryz.prog 76 #[.slice (some a) 0 c] w fun e w' => ∃ v, e = .returned v ∧ w'.ownsRow w.heap.size 5 1 v 0 [] ∧ Below w.heap.size w w' := by
  have hq := @Lib.run_eql_slice_nil Tryz.prog
  obtain ⟨i0, hi, hz0, hz1, hz2⟩ := info_parts infoU8
  go_enter Tryz.func76, Tryz.ntmps76
  go_wp2_with (at_builtin; refine wpList_append_own_at _ rfl _ _ 40 rfl w.heap.size 5 i0 (.int .u8 0) 1 1 Tryz.underlying40 hi hz0 hz1 hz2 rfl (by decide) _ 0 [] rfl (own_empty _ _ _) a 0 c [] rfl rfl ?hn ?h1 ?hm ?h7 ?hB ?_)
  case hn => intro j u hu; simp at hu
  case h1 => intro u hu; simp at hu
  case hm => simp [maxLen]
  case h7 => omega
  case hB => simp
  intro v' w' hown hg _ hat
  go_wp2
  go_ret
  refine ⟨v', rfl, by simpa using hown, ((box_below _ _).grown hg (by simp) ?_)⟩
  intro k hk; simp [Value.ownBlock] at hk; omega

/-- A copy of bytes: new, and as they were. -/
theorem clone_bytes (w : World) (v : Value) (xs : List UInt8) {S : Nat → Prop} (h : Bytes S w v xs) (h47 : xs.length ≤ 140737488355328) :
    Calls Tryz.prog 76 #[v] w fun e w' => ∃ v', e = .returned v' ∧ w'.ownsRow w.heap.size 5 1 v' xs.length (byteCells xs) ∧ Below w.heap.size w w' := by
  rcases h.2 with ⟨h0, rfl | ⟨a, c, rfl⟩⟩ | ⟨b, o, c, rfl, hn, hc, _, hb, hcell⟩
  · refine (clone_bytes_nil w).mono ?_
    rintro e w' ⟨rfl, rfl⟩
    obtain rfl : xs = [] := List.eq_nil_of_length_eq_zero h0
    exact ⟨_, rfl, ⟨rfl, .inl ⟨rfl, rfl⟩⟩, Below.refl _ _⟩
  · obtain rfl : xs = [] := List.eq_nil_of_length_eq_zero h0
    exact clone_bytes_empty w a c
  · exact clone_bytes_some w b o _ c _ h.1 hn hc h47 (byteCells_one xs) hcell

set_option maxHeartbeats 400000 in
theorem clone_parts (w : World) (b o n c : Nat) (cs : List Value) (hl : cs.length = n * 1) (hn : n ≤ c) (hc : c ≤ maxLen) (h47 : n * 16 ≤ 140737488355328) (h1 : ∀ u ∈ cs, u.oneCell' = true)
    (hcell : ∀ i u, cs[i]? = some u → w.cell? ⟨b, o + i, none⟩ = some u) :
    Calls Tryz.prog 85 #[.slice (some ⟨b, o, none⟩) n c] w fun e w' => ∃ v, e = .returned v ∧ w'.ownsRow w.heap.size 128 1 v n cs ∧ Below w.heap.size w w' := by
  have hq := @Lib.run_eql_slice_nil Tryz.prog
  obtain ⟨i0, hi, hz0, hz1, hz2⟩ := info_parts infoPart
  have HL := Lib.hid hl
  have H1 := Lib.hid h1
  have HC := Lib.hid hcell
  clear hl h1 hcell
  go_enter Tryz.func85, Tryz.ntmps85
  go_wp2_with (at_builtin; refine wpList_append_own_at _ rfl _ _ 123 rfl w.heap.size 128 i0 .nilIface 1 16 Tryz.underlying123 hi hz0 hz1 hz2 rfl (by decide) _ 0 [] rfl (own_empty _ _ _) ⟨b, o, none⟩ n c cs rfl HL.out ?hn H1.out ?hm ?h7 ?hB ?_)
  case hn => intro j u hu; rw [add_plain]; exact cell_keep (box_below _ _) (HC.out j u hu)
  case hm => omega
  case h7 => omega
  case hB => simp
  intro v' w' hown hg _ hat
  go_wp2
  go_ret
  refine ⟨v', rfl, by simpa using hown, ((box_below _ _).grown hg (by simp) ?_)⟩
  intro k hk; simp [Value.ownBlock] at hk; omega

set_option maxHeartbeats 400000 in
theorem clip_any (w : World) (A : Option Addr) (n c : Nat) (hn : (n : Int) ≤ c) (_hc : c ≤ 9223372036854775807) :
    Calls Tryz.prog 87 #[.slice A n c] w fun e w' => e = .returned (.slice A n n) ∧ w = w' := by
  go_enter Tryz.func87, Tryz.ntmps87
  go_wp2
  go_ret
  exact ⟨rfl, rfl⟩

set_option maxHeartbeats 400000 in
theorem own_any (w : World) (k t : Int) (v : Value) (xs : List UInt8) {S : Nat → Prop} (h : Bytes S w v xs) (h47 : xs.length ≤ 140737488355328) :
    Calls Tryz.prog 88 #[.agg #[.int .i64 k, .int .i64 t, v]] w fun e w' => ∃ v', e = .returned (.agg #[.int .i64 k, .int .i64 t, v']) ∧ Bytes (w.heap.size ≤ ·) w' v' xs ∧ Below w.heap.size w w' := by
  obtain ⟨A, c, rfl⟩ := h.slice
  go_enter Tryz.func88, Tryz.ntmps88
  go_wp2_with fail
  refine (clone_bytes _ _ xs (h.keep (((box_below _ _).alloc (by simp) _))) h47).mono ?_
  rintro e w1 ⟨v', rfl, hown, hb⟩
  have hr := RowAt.of_own hown
  obtain ⟨A', c', rfl⟩ := hr.slice
  obtain ⟨k0, k1, k2, _, _, f2⟩ := cells3 (blk_keep hb (blk_alloc (blk_new w _) _))
  have hB := blk_new (w.alloc (.cells #[.int .i64 k, .int .i64 t, .slice A xs.length c] 113)) (.cells #[.int .i64 0, .int .i64 0, .slice none 0 0] 113)
  rw [World.size_alloc] at hB
  obtain ⟨k3, k4, k5, f3, f4, f5⟩ := cells3 (blk_keep hb hB)
  have Hr := Lib.hid hr
  clear hown hr hB
  go_wp2
  refine bodyPost_ret (v := .agg #[.int .i64 k, .int .i64 t, .slice A' xs.length c']) (by simp [results, Tryz.results88, go_sem, k3, k4, k5]) rfl ⟨_, rfl, ?_, ?_⟩
  · refine ((Bytes.keepS Hr.out ?_).mono fun b _ h => ?_)
    · exact ((((Same.refl _ _).setCell (by simp; omega) _).setCell (by simp) _).setCell (by simp) _).setCell (by simp) _
    · simp at h; omega
  · exact ((((below_then ((box_below w _).alloc (by simp) _) hb).setCell (by simp) _).setCell (by simp) _).setCell (by simp) _).setCell (by simp) _
end Go.Proofs.YtahagecdebadfaaGreat

namespace Go.Proofs.YtahagecdebadfaaGreat
open Go.RowKit

theorem rightSize_any (n : Int) (w : World) :
    Calls Tryz.prog 147 #[.int .i64 n] w fun e w' => e = .returned (.bool (decide (n = 1) || decide (n = 2) || decide (n = 4))) ∧ w = w' := by
  by_cases h1 : n = 1
  · subst h1
    go_enter Tryz.func147, Tryz.ntmps147
    go_wp2
    go_ret
    exact ⟨rfl, rfl⟩
  · by_cases h2 : n = 2
    · subst h2
      go_enter Tryz.func147, Tryz.ntmps147
      go_wp2
      go_ret
      exact ⟨rfl, rfl⟩
    · have b1 : (n == 1) = false := by simpa using h1
      have b2 : (n == 2) = false := by simpa using h2
      go_enter Tryz.func147, Tryz.ntmps147
      go_wp2
      go_ret
      refine ⟨?_, rfl⟩
      simp [h1, h2]
      rfl

/-- A writer (or a reader) in block g: its bytes, in memory of its own, and its error. -/
def WrAt (T : TypeId) (B : Nat) (w : World) (g : Nat) (xs : List UInt8) (er : Int) : Prop :=
  B ≤ g ∧ ∃ v, w.heap[g]? = some (.cells #[v, .int .i64 er] T (0, 0)) ∧ w.ownsRow B 5 1 v xs.length (byteCells xs)

/-- A writer in block g, where nothing of S lies: neither its own block nor its row's. -/
def WrS (T : TypeId) (S : Nat → Prop) (B : Nat) (w : World) (g : Nat) (xs : List UInt8) (er : Int) : Prop :=
  B ≤ g ∧ ¬ S g ∧ ∃ v, w.heap[g]? = some (.cells #[v, .int .i64 er] T (0, 0)) ∧ w.ownsRow B 5 1 v xs.length (byteCells xs) ∧ ∀ k, v.ownBlock = some k → ¬ S k
theorem WrS.at_ {T : TypeId} {S : Nat → Prop} {B : Nat} {w : World} {g : Nat} {xs : List UInt8} {er : Int} (h : WrS T S B w g xs er) : WrAt T B w g xs er := by
  obtain ⟨hB, -, v, h1, h2, -⟩ := h
  exact ⟨hB, v, h1, h2⟩
theorem wrS_new (T : TypeId) (w : World) : WrS T (· < w.heap.size) w.heap.size (w.alloc (.cells #[.slice none 0 0, .int .i64 0] T)) w.heap.size [] 0 :=
  ⟨Nat.le_refl _, by simp, _, blk_new w _, World.ownsRow_nil _ _ _ _, fun k hk => by simp [Value.ownBlock] at hk⟩

theorem newWriter_any (w : World) :
    Calls Tryz.prog 121 #[] w fun e w' => e = .returned (.pointer (some ⟨w.heap.size, 0, none⟩)) ∧ w' = w.alloc (.cells #[.slice none 0 0, .int .i64 0] 176) := by
  go_enter Tryz.func121, Tryz.ntmps121
  go_wp2
  go_ret
  exact ⟨rfl, rfl⟩
theorem wrAt_new (T : TypeId) (w : World) : WrAt T w.heap.size (w.alloc (.cells #[.slice none 0 0, .int .i64 0] T)) w.heap.size [] 0 :=
  ⟨Nat.le_refl _, _, blk_new w _, World.ownsRow_nil _ _ _ _⟩

theorem be_drop (n size : Nat) (h : size ≤ 8) : (be 8 n).drop (8 - size) = be size n := by
  have hs : size = 0 ∨ size = 1 ∨ size = 2 ∨ size = 3 ∨ size = 4 ∨ size = 5 ∨ size = 6 ∨ size = 7 ∨ size = 8 := by omega
  rcases hs with rfl | rfl | rfl | rfl | rfl | rfl | rfl | rfl | rfl <;> rfl

/-- A row of bytes is no block of another type. -/
theorem own_ne {w : World} {B size n : Nat} {e t : TypeId} {v : Value} {xs : List Value} {g : Nat} {cs : Array Value} (h : w.ownsRow B e size v n xs) (hg : w.heap[g]? = some (.cells cs t (0, 0))) (hne : e ≠ t) : v.ownBlock ≠ some g := by
  rcases h.2 with ⟨rfl, _⟩ | ⟨g', cap, cur, rfl, _, hh, _⟩
  · simp [Value.ownBlock]
  · intro he
    obtain rfl : g' = g := by simpa [Value.ownBlock] using he
    rw [hh] at hg
    injection hg with hg
    injection hg with _ ht
    exact hne ht
theorem blk_put {w : World} {g : Nat} {x y : Value} {t : TypeId} (h : w.heap[g]? = some (.cells #[x, y] t (0, 0))) (u : Value) : (w.setCell ⟨g, 0, none⟩ u).heap[g]? = some (.cells #[u, y] t (0, 0)) := by
  simp [World.setCell, Array.getElem?_modify, h]
theorem blk_put1 {w : World} {g : Nat} {x y : Value} {t : TypeId} (h : w.heap[g]? = some (.cells #[x, y] t (0, 0))) (u : Value) : (w.setCell ⟨g, 1, none⟩ u).heap[g]? = some (.cells #[x, u] t (0, 0)) := by
  simp [World.setCell, Array.getElem?_modify, h]
theorem own_put {w : World} {B size n g k : Nat} {e t : TypeId} {v : Value} {xs : List Value} {cs : Array Value} (h : w.ownsRow B e size v n xs) (hg : w.heap[g]? = some (.cells cs t (0, 0))) (hne : e ≠ t) (u : Value) : (w.setCell ⟨g, k, none⟩ u).ownsRow B e size v n xs := by
  refine h.kept (row := some g) ⟨?_, ?_, ?_, ?_, ?_⟩ (.inr (own_ne h hg hne))
  · rfl
  · rfl
  · rfl
  · simp [World.setCell]
  · intro i hi hne
    exact Below.heap_setCell w ⟨g, k, none⟩ u i (fun e => hne (by rw [e]))
theorem wr_put {T : TypeId} {B g n : Nat} {w : World} {v v' : Value} {er : Int} {ys : List UInt8} (hblk : w.heap[g]? = some (.cells #[v, .int .i64 er] T (0, 0))) (hT : 5 ≠ T) (hn : n = ys.length) (hown : w.ownsRow B 5 1 v' n (byteCells ys)) (hB : B ≤ g) :
    WrAt T B (w.setCell ⟨g, 0, none⟩ v') g ys er :=
  ⟨hB, v', blk_put hblk v', by rw [← hn]; exact own_put hown hblk hT v'⟩
/-- Across an append to the writer's row its own block stands. -/
theorem wr_grown {T : TypeId} {B g n : Nat} {W w3 : World} {v x : Value} {xs : List Value} (hblk : W.heap[g]? = some (.cells #[v, x] T (0, 0))) (hT : 5 ≠ T) (hown : W.ownsRow B 5 1 v n xs) (hg3 : W.grownBy w3 v.ownBlock) :
    w3.heap[g]? = some (.cells #[v, x] T (0, 0)) :=
  (hg3.block g (Array.getElem?_eq_some_iff.1 hblk).1 (fun e => own_ne hown hblk hT e.symm)).trans hblk
theorem own_blk_ge {w : World} {B size n : Nat} {e : TypeId} {v : Value} {xs : List Value} (h : w.ownsRow B e size v n xs) : ∀ k, v.ownBlock = some k → B ≤ k := by
  intro k hk
  rcases h.2 with ⟨rfl, _⟩ | ⟨g', cap, cur, rfl, hb, _⟩
  · simp [Value.ownBlock] at hk
  · obtain rfl : g' = k := by simpa [Value.ownBlock] using hk
    exact hb

theorem byteCells_append (a b : List UInt8) : byteCells (a ++ b) = byteCells a ++ byteCells b := by simp [byteCells]

theorem same_grownO {S : Nat → Prop} {w w' : World} {r : Option Nat} (h : w.grownBy w' r) (hr : ∀ k, r = some k → ¬ S k) : Same S w w' :=
  ⟨h.size, fun b hs hb => h.block b hb fun e => hr b e.symm hs⟩
/-- The writer's block and row lie still where nothing of theirs is touched. -/
theorem WrS.keep {T : TypeId} {S : Nat → Prop} {B : Nat} {w w' : World} {g : Nat} {xs : List UInt8} {er : Int} (h : WrS T S B w g xs er) (hb : Below w.heap.size w w') : WrS T S B w' g xs er := by
  obtain ⟨hB, hS, v, h1, h2, h3⟩ := h
  exact ⟨hB, hS, v, blk_keep hb h1, own_keep h2 hb, h3⟩
theorem own_blk_lt {w : World} {B size n : Nat} {e : TypeId} {v : Value} {xs : List Value} (h : w.ownsRow B e size v n xs) : ∀ k, v.ownBlock = some k → k < w.heap.size := by
  intro k hk
  rcases h.2 with ⟨rfl, _⟩ | ⟨g', cap, cur, rfl, hb, hh, _⟩
  · simp [Value.ownBlock] at hk
  · obtain rfl : g' = k := by simpa [Value.ownBlock] using hk
    exact (Array.getElem?_eq_some_iff.1 hh).1
/-- More is set apart: what is new. -/
theorem WrS.grow {T : TypeId} {S : Nat → Prop} {B : Nat} {w w' : World} {g : Nat} {xs : List UInt8} {er : Int} (h : WrS T S B w g xs er) (hb : Below w.heap.size w w') : WrS T (fun b => S b ∨ w.heap.size ≤ b ∧ b < w'.heap.size) B w' g xs er := by
  obtain ⟨hB, hS, v, h1, h2, h3⟩ := h
  have hg := (Array.getElem?_eq_some_iff.1 h1).1
  refine ⟨hB, fun h => ?_, v, blk_keep hb h1, own_keep h2 hb, fun k hk h => ?_⟩
  · rcases h with h | h
    · exact hS h
    · omega
  · have := own_blk_lt h2 k hk
    rcases h with h | h
    · exact h3 k hk h
    · omega
theorem WrS.mono {T : TypeId} {S S' : Nat → Prop} {B : Nat} {w : World} {g : Nat} {xs : List UInt8} {er : Int} (h : WrS T S B w g xs er) (hS : ∀ b, S' b → S b) : WrS T S' B w g xs er := by
  obtain ⟨hB, h0, v, h1, h2, h3⟩ := h
  exact ⟨hB, fun h => h0 (hS _ h), v, h1, h2, fun k hk h => h3 k hk (hS _ h)⟩
end Go.Proofs.YtahagecdebadfaaGreat

namespace Go.Proofs.YtahagecdebadfaaGreat
open Go.RowKit

theorem zero_size (n : Nat) : (Builtin.zeroCells #[.int .u8 0] n).size = n := by
  simp [Builtin.zeroCells]

theorem below_drew1 {B : Nat} {a w : World} (h : Below B a w) : Below B a w.drew := ⟨h.os, h.tape, h.output, h.size, h.block⟩

theorem grow_zero (w : World) :
    Calls Tryz.prog 150 #[.slice none 0 0, .int .i64 0] w fun e w' => e = .returned (.slice none 0 0) ∧ w = w' := by
  go_enter Tryz.func150, Tryz.ntmps150
  go_wp2
  go_ret
  exact ⟨rfl, rfl⟩

set_option maxRecDepth 100000 in
set_option maxHeartbeats 2000000 in
theorem grow_some (n : Int) (w : World) (h0 : 0 < n) (h : n ≤ 1000000000) :
    Calls Tryz.prog 150 #[.slice none 0 0, .int .i64 n] w fun e w' => ∃ v, e = .returned v ∧ w'.ownsRow w.heap.size 5 1 v 0 [] ∧ Below w.heap.size w w' := by
  obtain ⟨i0, hi, hz0, hz1, hz2⟩ := info_parts infoU8
  obtain ⟨k, rfl⟩ := Int.eq_ofNat_of_zero_le (Int.le_of_lt h0)
  have hk : 0 < k := by omega
  have hrz : ∀ ty, (Builtin.append_ #[40, 3] ty #[.slice none 0 0, .int .i64 (k : Int)]).run Tryz.prog w =
      .ok (.slice (some ⟨w.heap.size, 0, none⟩) k (grownCap w k 0 5)) (w.drew.alloc (.cells (Builtin.zeroCells #[.int .u8 0] k ++ Builtin.zeroCells #[.int .u8 0] (grownCap w k 0 5 - k)) 5)) := fun ty => by
    have hh := Lib.run_append_grow_zeros w 40 3 ty 5 i0 (.int .u8 0) .i64 .i64 Tryz.underlying40 Tryz.underlying3 hi hz0 none 0 0 [] (run_firstCells_none _ _ _ _ _) k hk (by omega) (by omega) (by omega) (by rw [hz2]; omega)
      (growslice_fits (by omega) (by rw [hz2]; omega))
    simpa [Value.cells] using hh
  have hGn := grownCap_ge w k 0 5
  have hGm := grownCap_le_maxLen w k 0 5 (by unfold maxLen; omega)
  obtain ⟨G, hG⟩ : ∃ G, G = grownCap w k 0 5 := ⟨_, rfl⟩
  rw [← hG] at hrz hGn hGm
  have hG63 : G ≤ 9223372036854775807 := by unfold maxLen at hGm; omega
  have Hm := Lib.hid hGm
  obtain ⟨n, hn⟩ : ∃ n : Int, n = (k : Int) := ⟨_, rfl⟩
  rw [← hn] at h0 h hrz ⊢
  clear hG hGm hi hz0 hz1 hz2
  have Hn := Lib.hid hn
  clear hn
  have h1 : ¬ (n < 0) := by omega
  go_enter Tryz.func150, Tryz.ntmps150
  go_wp2_with (at_builtin; refine Lib.wpList_append_run _ rfl _ _ _ _ rfl _ _ rfl rfl _ _ (hrz _) ?_)
  all_goals go_ret
  all_goals refine ⟨_, rfl, ⟨rfl, .inr ⟨w.heap.size, G, _, rfl, Nat.le_refl _, heap_alloc_new _ _, Nat.zero_le _, Hm.out, ?_, by simp⟩⟩, below_drew1 (box_below _ _)⟩
  all_goals (simp only [Array.size_append, zero_size]; omega)

/-- Room at nil: a row of no bytes. -/
theorem grow_nil (n : Int) (w : World) (h0 : 0 ≤ n) (h : n ≤ 1000000000) :
    Calls Tryz.prog 150 #[.slice none 0 0, .int .i64 n] w fun e w' => ∃ v, e = .returned v ∧ w'.ownsRow w.heap.size 5 1 v 0 [] ∧ Below w.heap.size w w' := by
  by_cases hn : n = 0
  · subst hn
    refine (grow_zero w).mono ?_
    rintro e _ ⟨rfl, rfl⟩
    exact ⟨_, rfl, World.ownsRow_nil _ _ _ _, Below.refl _ _⟩
  · exact grow_some n w (by omega) h

/-- Bytes that end a row of the call's own: from whatever slice, nil too. -/
theorem run_append_bytes {S : Nat → Prop} (w : World) (B : Nat) (ty : TypeId) (v : Value) (n : Nat) (xs : List Value) (hown : w.ownsRow B 5 1 v n xs) (y : Value) (ys : List UInt8) (hy : Bytes S w y ys)
    (h47 : n + ys.length ≤ 140737488355328) (hB : B ≤ w.heap.size) :
    ∃ v' w', (Builtin.append_ #[40, 40] ty #[v, y]).run Tryz.prog w = .ok v' w' ∧ w'.ownsRow B 5 1 v' (n + ys.length) (xs ++ byteCells ys) ∧ w.grownBy w' v.ownBlock ∧ (v'.ownBlock = v.ownBlock ∨ v'.ownBlock = some w.heap.size) := by
  obtain ⟨i0, hi, hz0, hz1, hz2⟩ := info_parts infoU8
  have key : ∀ (a : Addr) (c : Nat), y = .slice (some a) ys.length c → (∀ j u, (byteCells ys)[j]? = some u → w.cell? (a.add j) = some u) →
      ∃ v' w', (Builtin.append_ #[40, 40] ty #[v, y]).run Tryz.prog w = .ok v' w' ∧ w'.ownsRow B 5 1 v' (n + ys.length) (xs ++ byteCells ys) ∧ w.grownBy w' v.ownBlock ∧ (v'.ownBlock = v.ownBlock ∨ v'.ownBlock = some w.heap.size) := by
    intro a c hya hcell
    subst hya
    obtain ⟨v', w', hr, h2, h3, _, h5⟩ := run_append_own_at (P := Tryz.prog) w B 40 ty 5 i0 (.int .u8 0) 1 1 Tryz.underlying40 hi hz0 hz1 hz2 rfl (by decide) v n xs hown a ys.length c (byteCells ys) (by simp [byteCells_length]) hcell (byteCells_one ys) (by unfold maxLen; omega) (by omega) hB
    exact ⟨v', w', hr, h2, h3, h5⟩
  rcases hy.2 with ⟨h0, rfl | ⟨a, c, hya⟩⟩ | ⟨b, o, c, hya, _, _, _, _, hcell⟩
  · obtain rfl : ys = [] := List.eq_nil_of_length_eq_zero h0
    refine ⟨v, w, ?_, by simpa [byteCells] using hown, ⟨rfl, rfl, rfl, Nat.le_refl _, fun _ _ _ => rfl⟩, .inl rfl⟩
    rcases hown.2 with ⟨rfl, rfl⟩ | ⟨g, cap, cur, rfl, hbg, hg, hnc, hcm, hcs, htake⟩
    · simp [Builtin.append_, run_underlying Tryz.underlying40, Go.sizeOf, typeInfo, hi, Builtin.lenOf, Builtin.firstCells]
    · simp [Builtin.append_, run_underlying Tryz.underlying40, Go.sizeOf, typeInfo, hi, Builtin.lenOf, Builtin.firstCells, loadCells, hnc, storeCells]
  · refine key a c (by rw [h0]; exact hya) fun j u hu => ?_
    obtain rfl : ys = [] := List.eq_nil_of_length_eq_zero h0
    simp [byteCells] at hu
  · exact key _ c hya fun j u hu => by rw [add_plain]; exact hcell j u hu

theorem wpList_append_bytes {S : Nat → Prop} {ops : Array Oper} {rest : List Oper} {o : Oper} {a : Act} {Q : Exit → Act → World → Prop} (w : World) (hgd : o.guard = none) (s x : Operand)
    (ho : o.op = .call { callee := .builtin .append, args := #[s, x], argTypes := #[40, 40] }) (vs vx : Value) (hs : a.eval s = vs) (hx : a.eval x = vx)
    (B : Nat) (n : Nat) (xs : List Value) (hown : w.ownsRow B 5 1 vs n xs) (ys : List UInt8) (hy : Bytes S w vx ys) (h47 : n + ys.length ≤ 140737488355328) (hB : B ≤ w.heap.size)
    (h : ∀ v' w', w'.ownsRow B 5 1 v' (n + ys.length) (xs ++ byteCells ys) → w.grownBy w' vs.ownBlock → (v'.ownBlock = vs.ownBlock ∨ v'.ownBlock = some w.heap.size) → wpList Tryz.prog ops Q rest (a.put o.dst v') w') : wpList Tryz.prog ops Q (o :: rest) a w := by
  obtain ⟨v', w', hr, h1, h2, h3⟩ := run_append_bytes w B o.type vs n xs hown vx ys hy h47 hB
  exact Lib.wpList_append_run w hgd s x _ _ ho vs vx hs hx v' w' hr (h v' w' h1 h2 h3)
end Go.Proofs.YtahagecdebadfaaGreat

namespace Go.Proofs.YtahagecdebadfaaGreat
open Go.RowKit

theorem wrap64_small (a : Int) (h0 : 0 ≤ a) (h : a ≤ 1000000000) : wrap64 a = a := by unfold wrap64; omega

set_option maxRecDepth 100000 in
set_option maxHeartbeats 4000000 in
theorem concat3 {S1 S2 S3 : Nat → Prop} (A : Nat) (a1 a2 a3 : Option Addr) (n1 n2 n3 c1 c2 c3 : Nat) (x1 x2 x3 : List UInt8) (t : TypeId) (w : World)
    (hblk : w.heap[A]? = some (.cells #[.slice a1 n1 c1, .slice a2 n2 c2, .slice a3 n3 c3] t (0, 0)))
    (h1 : Bytes S1 w (.slice a1 n1 c1) x1) (h2 : Bytes S2 w (.slice a2 n2 c2) x2) (h3 : Bytes S3 w (.slice a3 n3 c3) x3) (hn1 : x1.length = n1) (hn2 : x2.length = n2) (hn3 : x3.length = n3)
    (hs : n1 + n2 + n3 ≤ 1000000000) :
    Calls Tryz.prog 149 #[.slice (some ⟨A, 0, none⟩) 3 3] w fun e w' => ∃ v, e = .returned v ∧ w'.ownsRow w.heap.size 5 1 v (n1 + n2 + n3) (byteCells (x1 ++ x2 ++ x3)) ∧ Below w.heap.size w w' := by
  obtain ⟨g0, g1, g2, f0, f1, f2⟩ := cells3 hblk
  have hA := block_lt g0
  have p1 : ¬ ((n1 : Int) < 0) := by omega
  have p2 : ¬ ((n1 : Int) + n2 < 0) := by omega
  have p3 : ¬ ((n1 : Int) + n2 + n3 < 0) := by omega
  have HG := Lib.hid (fun (w0 : World) => grow_nil ((n1 : Int) + n2 + n3) w0 (by omega) (by omega))
  have s1 : wrap64 (n1 : Int) = n1 := wrap64_small _ (by omega) (by omega)
  have s2 : wrap64 ((n1 : Int) + n2) = (n1 : Int) + n2 := wrap64_small _ (by omega) (by omega)
  have s3 : wrap64 ((n1 : Int) + n2 + n3) = (n1 : Int) + n2 + n3 := wrap64_small _ (by omega) (by omega)
  have Hs := Lib.hid hs
  have H1 := Lib.hid h1
  have H2 := Lib.hid h2
  have H3 := Lib.hid h3
  have Hn1 := Lib.hid hn1
  have Hn2 := Lib.hid hn2
  have Hn3 := Lib.hid hn3
  have Hblk := Lib.hid hblk
  clear hs h1 h2 h3 hn1 hn2 hn3 hblk
  go_enter Tryz.func149, Tryz.ntmps149
  go_wp2_with fail
  refine wp_loop_rounds 4 ?_
  rw [rounds_succ]
  go_wp2_with fail
  rw [rounds_succ]
  go_wp2_with fail
  rw [rounds_succ]
  go_wp2_with fail
  rw [rounds_succ]
  go_wp2_with fail
  refine (HG.out _).mono ?_
  rintro _ w1 ⟨v, rfl, hown, hb⟩
  have g01 := cell_keep hb g0
  have Hown := Lib.hid hown
  clear hown
  go_wp2_with fail
  refine wp_loop_rounds 4 ?_
  rw [rounds_succ]
  go_wp2_with (at_builtin; refine wpList_append_bytes _ rfl _ _ rfl _ _ rfl rfl w.heap.size 0 [] Hown.out x1 (H1.out.keep hb) ?h71 ?hB1 ?_)
  case h71 => have := Hs.out; have := Hn1.out; have := Hn2.out; have := Hn3.out; clear s1 s2 s3; omega
  case hB1 => exact hb.size
  intro u1 w2 hown1 hgr1 _
  have hb1 := hb.grown hgr1 hb.size (own_blk_ge Hown.out)
  have g11 := cell_keep hb1 g1
  have g12 := cell_keep hb1 g2
  have Hown1 := Lib.hid hown1
  clear hown1 hgr1
  go_wp2_with fail
  rw [rounds_succ]
  go_wp2_with (at_builtin; refine wpList_append_bytes _ rfl _ _ rfl _ _ rfl rfl w.heap.size x1.length (byteCells x1) Hown1.out x2 (H2.out.keep hb1) ?h72 ?hB2 ?_)
  case h72 => have := Hs.out; have := Hn1.out; have := Hn2.out; have := Hn3.out; clear s1 s2 s3; omega
  case hB2 => exact hb1.size
  intro u2 w3 hown2 hgr2 _
  have hb2 := hb1.grown hgr2 hb1.size (own_blk_ge Hown1.out)
  have g21 := cell_keep hb2 g1
  have g22 := cell_keep hb2 g2
  have Hown2 := Lib.hid hown2
  clear hown2 hgr2
  go_wp2_with fail
  rw [rounds_succ]
  go_wp2_with (at_builtin; refine wpList_append_bytes _ rfl _ _ rfl _ _ rfl rfl w.heap.size (x1.length + x2.length) (byteCells x1 ++ byteCells x2) Hown2.out x3 (H3.out.keep hb2) ?h73 ?hB3 ?_)
  case h73 => have := Hs.out; have := Hn1.out; have := Hn2.out; have := Hn3.out; clear s1 s2 s3; omega
  case hB3 => exact hb2.size
  intro u3 w4 hown3 hgr3 _
  have hb3 := hb2.grown hgr3 hb2.size (own_blk_ge Hown2.out)
  have g31 := cell_keep hb3 g1
  have g32 := cell_keep hb3 g2
  have Hown3 := Lib.hid hown3
  clear hown3 hgr3
  go_wp2_with fail
  rw [rounds_succ]
  go_wp2_with fail
  go_ret
  refine ⟨_, rfl, ?_, hb3⟩
  have h := Hown3.out
  have e1 := Hn1.out
  have e2 := Hn2.out
  have e3 := Hn3.out
  subst e1 e2 e3
  simpa [byteCells_append, List.append_assoc] using h
end Go.Proofs.YtahagecdebadfaaGreat
