/- Rows of bytes of the call's own, and strings of them. No statement is proved here. -/
import Derived.Test.YtmehjcimohhopaaDoorChecked
import Derived.Test.YtmehjcimohhopaaDoorBase
import Derived.Lib.AppendZerosOnto
import Derived.Lib.SliceRun
import Derived.Deep.RegionLaw
import Derived.Laws.IdiomStrings
namespace Go.Proofs.YtmehjcimohhopaaDoor
open Go.RowKit

def in64 (n : Int) : Prop := -9223372036854775808 ≤ n ∧ n ≤ 9223372036854775807
theorem box_below (w : World) (o : Obj) : Below w.heap.size w (w.alloc o) := (Below.refl _ _).alloc (Nat.le_refl _) _
theorem infoU8 : (Tryd.prog.info? 5).map (fun i => (i.zero, i.size, i.bytes)) = some (some (.int .u8 0), 1, 1) := by kernel_rfl
/-- A row of bytes is no block of another type. -/
theorem own_ne {w : World} {B size n : Nat} {e t : TypeId} {v : Value} {xs : List Value} {g : Nat} {cs : Array Value} (h : w.ownsRow B e size v n xs) (hg : w.heap[g]? = some (.cells cs t (0, 0))) (hne : e ≠ t) : v.ownBlock ≠ some g := by
  rcases h.2 with ⟨rfl, _⟩ | ⟨g', cap, cur, rfl, _, hh, _⟩
  · simp [Value.ownBlock]
  · intro he
    obtain rfl : g' = g := by simpa [Value.ownBlock] using he
    rw [hh] at hg
    injection hg with hg
    injection hg with _ ht
    exact hne ht
theorem own_put {w : World} {B size n g k : Nat} {e t : TypeId} {v : Value} {xs : List Value} {cs : Array Value} (h : w.ownsRow B e size v n xs) (hg : w.heap[g]? = some (.cells cs t (0, 0))) (hne : e ≠ t) (u : Value) : (w.setCell ⟨g, k, none⟩ u).ownsRow B e size v n xs := by
  refine h.kept (row := some g) ⟨?_, ?_, ?_, ?_, ?_⟩ (.inr (own_ne h hg hne))
  · rfl
  · rfl
  · rfl
  · simp [World.setCell]
  · intro i hi hne
    exact Below.heap_setCell w ⟨g, k, none⟩ u i (fun e => hne (by rw [e]))
theorem own_blk_ge {w : World} {B size n : Nat} {e : TypeId} {v : Value} {xs : List Value} (h : w.ownsRow B e size v n xs) : ∀ k, v.ownBlock = some k → B ≤ k := by
  intro k hk
  rcases h.2 with ⟨rfl, _⟩ | ⟨g', cap, cur, rfl, hb, _⟩
  · simp [Value.ownBlock] at hk
  · obtain rfl : g' = k := by simpa [Value.ownBlock] using hk
    exact hb
theorem byteCells_append (a b : List UInt8) : byteCells (a ++ b) = byteCells a ++ byteCells b := by simp [byteCells]
theorem same_grownO {S : Nat → Prop} {w w' : World} {r : Option Nat} (h : w.grownBy w' r) (hr : ∀ k, r = some k → ¬ S k) : Same S w w' :=
  ⟨h.size, fun b hs hb => h.block b hb fun e => hr b e.symm hs⟩
theorem own_blk_lt {w : World} {B size n : Nat} {e : TypeId} {v : Value} {xs : List Value} (h : w.ownsRow B e size v n xs) : ∀ k, v.ownBlock = some k → k < w.heap.size := by
  intro k hk
  rcases h.2 with ⟨rfl, _⟩ | ⟨g', cap, cur, rfl, hb, hh, _⟩
  · simp [Value.ownBlock] at hk
  · obtain rfl : g' = k := by simpa [Value.ownBlock] using hk
    exact (Array.getElem?_eq_some_iff.1 hh).1
theorem below_drew1 {B : Nat} {a w : World} (h : Below B a w) : Below B a w.drew := ⟨h.os, h.tape, h.output, h.size, h.block⟩
/-- Bytes that end a row of the call's own: from whatever slice, nil too. -/
theorem run_append_bytes {S : Nat → Prop} (w : World) (B : Nat) (ty : TypeId) (v : Value) (n : Nat) (xs : List Value) (hown : w.ownsRow B 5 1 v n xs) (y : Value) (ys : List UInt8) (hy : Bytes S w y ys)
    (h47 : n + ys.length ≤ 140737488355328) (hB : B ≤ w.heap.size) :
    ∃ v' w', (Builtin.append_ #[48, 48] ty #[v, y]).run Tryd.prog w = .ok v' w' ∧ w'.ownsRow B 5 1 v' (n + ys.length) (xs ++ byteCells ys) ∧ w.grownBy w' v.ownBlock ∧ (v'.ownBlock = v.ownBlock ∨ v'.ownBlock = some w.heap.size) := by
  obtain ⟨i0, hi, hz0, hz1, hz2⟩ := info_parts infoU8
  have key : ∀ (a : Addr) (c : Nat), y = .slice (some a) ys.length c → (∀ j u, (byteCells ys)[j]? = some u → w.cell? (a.add j) = some u) →
      ∃ v' w', (Builtin.append_ #[48, 48] ty #[v, y]).run Tryd.prog w = .ok v' w' ∧ w'.ownsRow B 5 1 v' (n + ys.length) (xs ++ byteCells ys) ∧ w.grownBy w' v.ownBlock ∧ (v'.ownBlock = v.ownBlock ∨ v'.ownBlock = some w.heap.size) := by
    intro a c hya hcell
    subst hya
    obtain ⟨v', w', hr, h2, h3, _, h5⟩ := run_append_own_at (P := Tryd.prog) w B 48 ty 5 i0 (.int .u8 0) 1 1 Tryd.underlying48 hi hz0 hz1 hz2 rfl (by decide) v n xs hown a ys.length c (byteCells ys) (by simp [byteCells_length]) hcell (byteCells_one ys) (by unfold maxLen; omega) (by omega) hB
    exact ⟨v', w', hr, h2, h3, h5⟩
  rcases hy.2 with ⟨h0, rfl | ⟨a, c, hya⟩⟩ | ⟨b, o, c, hya, _, _, _, _, hcell⟩
  · obtain rfl : ys = [] := List.eq_nil_of_length_eq_zero h0
    refine ⟨v, w, ?_, by simpa [byteCells] using hown, ⟨rfl, rfl, rfl, Nat.le_refl _, fun _ _ _ => rfl⟩, .inl rfl⟩
    rcases hown.2 with ⟨rfl, rfl⟩ | ⟨g, cap, cur, rfl, hbg, hg, hnc, hcm, hcs, htake⟩
    · simp [Builtin.append_, run_underlying Tryd.underlying48, Go.sizeOf, typeInfo, hi, Builtin.lenOf, Builtin.firstCells]
    · simp [Builtin.append_, run_underlying Tryd.underlying48, Go.sizeOf, typeInfo, hi, Builtin.lenOf, Builtin.firstCells, loadCells, hnc, storeCells]
  · refine key a c (by rw [h0]; exact hya) fun j u hu => ?_
    obtain rfl : ys = [] := List.eq_nil_of_length_eq_zero h0
    simp [byteCells] at hu
  · exact key _ c hya fun j u hu => by rw [add_plain]; exact hcell j u hu
theorem wpList_append_bytes {S : Nat → Prop} {ops : Array Oper} {rest : List Oper} {o : Oper} {a : Act} {Q : Exit → Act → World → Prop} (w : World) (hgd : o.guard = none) (s x : Operand)
    (ho : o.op = .call { callee := .builtin .append, args := #[s, x], argTypes := #[48, 48] }) (vs vx : Value) (hs : a.eval s = vs) (hx : a.eval x = vx)
    (B : Nat) (n : Nat) (xs : List Value) (hown : w.ownsRow B 5 1 vs n xs) (ys : List UInt8) (hy : Bytes S w vx ys) (h47 : n + ys.length ≤ 140737488355328) (hB : B ≤ w.heap.size)
    (h : ∀ v' w', w'.ownsRow B 5 1 v' (n + ys.length) (xs ++ byteCells ys) → w.grownBy w' vs.ownBlock → (v'.ownBlock = vs.ownBlock ∨ v'.ownBlock = some w.heap.size) → wpList Tryd.prog ops Q rest (a.put o.dst v') w') : wpList Tryd.prog ops Q (o :: rest) a w := by
  obtain ⟨v', w', hr, h1, h2, h3⟩ := run_append_bytes w B o.type vs n xs hown vx ys hy h47 hB
  exact Lib.wpList_append_run w hgd s x _ _ ho vs vx hs hx v' w' hr (h v' w' h1 h2 h3)
theorem grown_refl (w : World) (r : Option Nat) : w.grownBy w r := ⟨rfl, rfl, rfl, Nat.le_refl _, fun _ _ _ => rfl⟩
theorem grown_set {w w' : World} {g : Nat} (h : w.grownBy w' (some g)) (k : Nat) (u : Value) : w.grownBy (w'.setCell ⟨g, k, none⟩ u) (some g) :=
  ⟨h.os, h.tape, h.output, by simp [World.setCell]; exact h.size, fun i hi hne => (Below.heap_setCell w' ⟨g, k, none⟩ u i (fun e => hne (by rw [e]))).trans (h.block i hi hne)⟩
theorem grown_below {w w1 w2 : World} {r : Option Nat} (h : w.grownBy w1 r) (k : Below w1.heap.size w1 w2) : w.grownBy w2 r :=
  ⟨k.os.trans h.os, k.tape.trans h.tape, k.output.trans h.output, Nat.le_trans h.size k.size, fun i hi hne => (k.block i (Nat.lt_of_lt_of_le hi h.size)).trans (h.block i hi hne)⟩
theorem grown_trans {w w1 w2 : World} {r : Option Nat} (h : w.grownBy w1 r) (k : w1.grownBy w2 r) : w.grownBy w2 r :=
  ⟨k.os.trans h.os, k.tape.trans h.tape, k.output.trans h.output, Nat.le_trans h.size k.size, fun i hi hne => (k.block i (Nat.lt_of_lt_of_le hi h.size) hne).trans (h.block i hi hne)⟩
theorem same_grownG {w w' : World} {g : Nat} (h : w.grownBy w' (some g)) {S : Nat → Prop} (hS : ¬ S g) : Same S w w' :=
  ⟨h.size, fun b hb hlt => h.block b hlt (fun e => by injection e with e; exact hS (e ▸ hb))⟩
theorem grown_blk {w w' : World} {r : Option Nat} (h : w.grownBy w' r) {b : Nat} {o : Obj} (hne : some b ≠ r) (hb : w.heap[b]? = some o) : w'.heap[b]? = some o :=
  (h.block b (Array.getElem?_eq_some_iff.1 hb).1 hne).trans hb
/-- A store into a row of the call's own. -/
theorem own_store {w : World} {base g n cap i : Nat} {e : TypeId} {xs : List Value} (h : w.ownsRow base e 1 (.slice (some ⟨g, 0, none⟩) n cap) n xs) (_hi : i < n) (u : Value) :
    (w.setCell ⟨g, i, none⟩ u).ownsRow base e 1 (.slice (some ⟨g, 0, none⟩) n cap) n (xs.set i u) := by
  obtain ⟨h1, h2⟩ := h
  refine ⟨by simpa using h1, ?_⟩
  rcases h2 with ⟨h2, h3⟩ | ⟨g', cap', cur, hv, hb, hh, hn, hc, hs, ht⟩
  · cases h2
  · injection hv with hv1 hv2 hv3
    injection hv1 with hv1
    injection hv1 with hv1
    subst hv1 hv3
    refine .inr ⟨g, cap, cur.setIfInBounds i u, rfl, hb, ?_, hn, hc, by simpa using hs, ?_⟩
    · simp [World.setCell, Array.getElem?_modify, hh]
    · rw [Array.toList_setIfInBounds, List.take_set, ht]
theorem own_cell {w : World} {base g n cap i : Nat} {e : TypeId} {xs : List Value} {u : Value} (h : w.ownsRow base e 1 (.slice (some ⟨g, 0, none⟩) n cap) n xs) (hu : xs[i]? = some u) :
    w.cell? ⟨g, i, none⟩ = some u ∧ w.frozen? ⟨g, i, none⟩ = false := by
  obtain ⟨h1, h2⟩ := h
  rcases h2 with ⟨h2, h3⟩ | ⟨g', cap', cur, hv, hb, hh, hn, hc, hs, ht⟩
  · cases h2
  · injection hv with hv1 hv2 hv3
    injection hv1 with hv1
    injection hv1 with hv1
    subst hv1 hv3
    have hi : i < n * 1 := by rw [← h1]; exact (List.getElem?_eq_some_iff.1 hu).1
    rw [← ht, List.getElem?_take, if_pos hi] at hu
    constructor
    · simp [World.cell?, hh]
      simpa using hu
    · simp [World.frozen?, hh]
theorem cell_one (w : World) (x : Value) (t : TypeId) : ∀ j u, ([x] : List Value)[j]? = some u → (w.alloc (.cells #[x] t)).cell? ((⟨w.heap.size, 0, none⟩ : Addr).add j) = some u := by
  intro j u hu
  rw [add_plain, Nat.zero_add, cell_of_row _ _ _ _ _ _ (blk_new w _)]
  simpa using hu
theorem grown_setO {w w' : World} {r : Option Nat} {g : Nat} (h : w.grownBy w' r) (hr : r = some g) (k : Nat) (u : Value) : w.grownBy (w'.setCell ⟨g, k, none⟩ u) r := by subst hr; exact grown_set h k u
theorem grown_new' {w w' : World} {r : Option Nat} (h : w.grownBy w' r) {b k : Nat} (hb : w.heap.size ≤ b) (u : Value) : w.grownBy (w'.setCell ⟨b, k, none⟩ u) r :=
  ⟨h.os, h.tape, h.output, by simp [World.setCell]; exact h.size, fun i hi hne => (Below.heap_setCell w' ⟨b, k, none⟩ u i (by simp; omega)).trans (h.block i hi hne)⟩
theorem bytes_str {S : Nat → Prop} {w : World} {v : Value} {xs : List UInt8} (h : Bytes S w v xs) : (convert 48 9 v).run Tryd.prog w = .ok (.string ⟨xs.toArray⟩) w := by
  have hs : Tryd.prog.underlying 9 = some .string := Tryd.underlying9
  rcases h.2 with ⟨h0, rfl | ⟨a, c, rfl⟩⟩ | ⟨b, o, c, rfl, hn, hc, _, hb, hcell⟩
  · obtain rfl : xs = [] := List.eq_nil_of_length_eq_zero h0
    rw [run_convert_bytes_string w _ _ _ none 0 0 Tryd.underlying48 Tryd.underlying5 hs]
    simp [Conv.bytesToString]
    rfl
  · obtain rfl : xs = [] := List.eq_nil_of_length_eq_zero h0
    exact run_convert_bytes_back w _ _ _ a c [] Tryd.underlying48 Tryd.underlying5 hs (fun j hj => by simp at hj)
  · refine run_convert_bytes_back w _ _ _ _ c xs Tryd.underlying48 Tryd.underlying5 hs (fun j hj => ?_)
    rw [add_plain]
    exact hcell j _ (by simp [byteCells, hj])
theorem sizeU8 (w : World) : (Go.sizeOf 5).run Tryd.prog w = .ok 1 w := by
  obtain ⟨i0, hi, hz0, hz1, hz2⟩ := info_parts infoU8
  simp [Go.sizeOf, typeInfo, hi, hz1]
theorem elemBytes : Tryd.prog.elem 48 = 5 := by kernel_rfl
theorem bytes_sliced {S : Nat → Prop} {w : World} {a : Option Addr} {n c : Nat} {xs : List UInt8} (h : Bytes S w (.slice a n c) xs) (l k m : Nat) (h1 : l ≤ k) (h2 : k ≤ n) (h3 : k ≤ m) (h4 : m ≤ c) :
    Bytes S w (sliced a l k m 1) ((xs.take k).drop l) := by
  have hn : n = xs.length := by obtain ⟨A, c1, e⟩ := h.slice; injection e
  subst hn
  have hl : ((xs.take k).drop l).length = k - l := by simp; omega
  unfold sliced
  rcases h.2 with ⟨h0, hv | ⟨a', c', hv⟩⟩ | ⟨b, o, c', hv, hn, hc, hS, hb, hcell⟩
  · injection hv with e1 e2 e3
    subst e1 e3
    have hm : m = 0 := by omega
    subst hm
    have e0 : l = 0 := by omega
    have e5 : k = 0 := by omega
    subst e0 e5
    exact ⟨by simp [byteCells], .inl ⟨by simp, .inl (by simp)⟩⟩
  · injection hv with e1 e2 e3
    subst e1
    refine ⟨by simp [byteCells_length], .inl ⟨by omega, .inr ⟨if m = l then a' else a'.add (l * 1), m - l, ?_⟩⟩⟩
    have : k - l = 0 := by omega
    rw [this]
    split <;> rfl
  · injection hv with e1 e2 e3
    subst e1 e3
    by_cases hkl : k = l
    · subst hkl
      refine ⟨by simp [byteCells_length], .inl ⟨by omega, .inr ⟨if m = k then ⟨b, o, none⟩ else (⟨b, o, none⟩ : Addr).add (k * 1), m - k, ?_⟩⟩⟩
      rw [Nat.sub_self]
      split <;> rfl
    · have hml : m ≠ l := by omega
      rw [if_neg hml]
      refine ⟨by simp [byteCells_length], .inr ⟨b, o + l, m - l, ?_, by omega, by unfold maxLen at *; omega, hS, hb, fun i u hu => ?_⟩⟩
      · rw [hl]
        simp [add_plain]
      · have e : byteCells ((xs.take k).drop l) = ((byteCells xs).take k).drop l := by simp [byteCells]
        rw [e, List.getElem?_drop, List.getElem?_take] at hu
        split at hu
        · have := hcell _ _ hu
          rwa [← Nat.add_assoc] at this
        · cases hu
/-- A piece from l to k. -/
theorem bytes_lh {S : Nat → Prop} {w : World} {v : Value} {xs : List UInt8} (h : Bytes S w v xs) (l k : Int) (h0 : 0 ≤ l) (h1 : l ≤ k) (h2 : k ≤ xs.length) :
    ∃ a n c, Bytes S w (.slice a n c) ((xs.take k.toNat).drop l.toNat) ∧ n = k.toNat - l.toNat ∧ ∀ w0 kl kh, (Instr.sliceAt 48 v (some (.int kl l)) (some (.int kh k)) none).run Tryd.prog w0 = .ok (.slice a n c) w0 := by
  obtain ⟨A, c, rfl⟩ := h.slice
  have hc : xs.length ≤ c := by
    rcases h.2 with ⟨h0, hv | ⟨a', c', hv⟩⟩ | ⟨b, o, c', hv, hn, hc, hS, hb, hcell⟩
    · omega
    · omega
    · injection hv with e1 e2 e3
      omega
  refine ⟨_, _, _, bytes_sliced h l.toNat k.toNat c (by omega) (by omega) (by omega) (by omega), rfl, fun w0 kl kh => ?_⟩
  have ht : Tryd.prog.underlying 48 = some (.slice (Tryd.prog.elem 48)) := by rw [elemBytes]; exact Tryd.underlying48
  rw [run_sliceAt_slice _ _ _ _ _ _ ht, run_slice_lh _ _ _ _ _ ht kl kh l k h0 h1 (by omega), elemBytes, sizeU8]
  rfl
/-- A piece from l on. -/
theorem bytes_l {S : Nat → Prop} {w : World} {v : Value} {xs : List UInt8} (h : Bytes S w v xs) (l : Int) (h0 : 0 ≤ l) (h2 : l ≤ xs.length) :
    ∃ a n c, Bytes S w (.slice a n c) (xs.drop l.toNat) ∧ n = xs.length - l.toNat ∧ ∀ w0 kl, (Instr.sliceAt 48 v (some (.int kl l)) none none).run Tryd.prog w0 = .ok (.slice a n c) w0 := by
  obtain ⟨A, c, rfl⟩ := h.slice
  have hc : xs.length ≤ c := by
    rcases h.2 with ⟨h0, hv | ⟨a', c', hv⟩⟩ | ⟨b, o, c', hv, hn, hc, hS, hb, hcell⟩
    · omega
    · omega
    · injection hv with e1 e2 e3
      omega
  have hs := bytes_sliced h l.toNat xs.length c (by omega) (by omega) (by omega) (by omega)
  rw [List.take_length] at hs
  refine ⟨_, _, _, hs, rfl, fun w0 kl => ?_⟩
  have ht : Tryd.prog.underlying 48 = some (.slice (Tryd.prog.elem 48)) := by rw [elemBytes]; exact Tryd.underlying48
  rw [run_sliceAt_slice _ _ _ _ _ _ ht, run_slice_l _ _ _ _ _ ht kl l h0 h2, elemBytes, sizeU8]
  rfl
/-- Bytes that are lent: n of them, and a mark behind. -/
def LentAt (B : Nat) (w : World) (v : Value) (xs : List UInt8) : Prop :=
  ∃ g cap, v = .slice (some ⟨g, 0, none⟩) xs.length cap ∧ w.ownsRow B 5 1 (.slice (some ⟨g, 0, none⟩) (xs.length + 1) cap) (xs.length + 1) (byteCells (xs ++ [167]))
theorem lent_form {w : World} {B n : Nat} {u : Value} {cs : List Value} (h : w.ownsRow B 5 1 u (n + 1) cs) : ∃ g cap, u = .slice (some ⟨g, 0, none⟩) (n + 1) cap ∧ (n : Int) + 1 ≤ cap ∧ cap ≠ 0 ∧ cap ≤ 9223372036854775807 := by
  rcases h.2 with ⟨_, h⟩ | ⟨g, cap, cur, h, _, _, h1, h2, _⟩
  · omega
  · exact ⟨g, cap, h, by omega, by omega, by unfold maxLen at h2; omega⟩
/-- A piece up to k. -/
theorem bytes_h {S : Nat → Prop} {w : World} {v : Value} {xs : List UInt8} (h : Bytes S w v xs) (k : Int) (h1 : 0 ≤ k) (h2 : k ≤ xs.length) :
    ∃ a n c, Bytes S w (.slice a n c) (xs.take k.toNat) ∧ n = k.toNat ∧ ∀ w0 kh, (Instr.sliceAt 48 v none (some (.int kh k)) none).run Tryd.prog w0 = .ok (.slice a n c) w0 := by
  obtain ⟨A, c, rfl⟩ := h.slice
  have hc : xs.length ≤ c := by
    rcases h.2 with ⟨h0, hv | ⟨a', c', hv⟩⟩ | ⟨b, o, c', hv, hn, hc, hS, hb, hcell⟩
    · omega
    · omega
    · injection hv with e1 e2 e3
      omega
  have hs := bytes_sliced h 0 k.toNat c (by omega) (by omega) (by omega) (by omega)
  rw [List.drop_zero] at hs
  refine ⟨_, _, _, hs, by omega, fun w0 kh => ?_⟩
  have ht : Tryd.prog.underlying 48 = some (.slice (Tryd.prog.elem 48)) := by rw [elemBytes]; exact Tryd.underlying48
  rw [run_sliceAt_slice _ _ _ _ _ _ ht, run_slice_h _ _ _ _ _ ht kh k h1 (by omega), elemBytes, sizeU8]
  rfl
end Go.Proofs.YtmehjcimohhopaaDoor
