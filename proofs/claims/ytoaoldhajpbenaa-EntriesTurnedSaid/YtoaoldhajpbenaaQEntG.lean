/- Texts that belong together, in one file: LetRa, SumA, EntL, EntD, EntE, EntF, EntG. No statement is proved here. -/
import Derived.Test.YtoaoldhajpbenaaLetR
import Derived.Test.YtoaoldhajpbenaaQRefB
import Derived.Test.YtoaoldhajpbenaaQLetM
import Derived.Test.YtoaoldhajpbenaaQRefE
import Derived.Test.YtoaoldhajpbenaaQLetA
import Derived.Deep.RegionWith
import Derived.Deep.RegionHeld3
import Derived.Deep.DrawnRows
import Derived.Deep.RegionLaw
namespace Go.Proofs.Ytoaoldhajpbenaa
open Go.RowKit

theorem qunpackMsg_any {S : Nat → Prop} (v : Value) (xs : List UInt8) (w : World) (hv : Bytes S w v xs) (h47 : xs.length ≤ 140737488355328) : Calls Try.prog 36 #[v] w (UnpTo w xs) := by
  by_cases h1 : 65536 < xs.length ∨ xs.length < 4
  · exact qunpackMsg_size v xs w hv h47 h1
  by_cases hs : beVal (xs.drop (xs.length - 4)) ≠ crcSum (xs.take (xs.length - 4))
  · exact qunpackMsg_sum v xs w hv (by omega) (by omega) hs
  have hs' : beVal (xs.drop (xs.length - 4)) = crcSum (xs.take (xs.length - 4)) := by omega
  by_cases h4 : xs.length = 4
  · exact qunpackMsg_none v xs w hv (by omega) h4 hs'
  by_cases hm : xs.headD 0 = 202
  · exact qunpackMsg_body v xs w hv (by omega) (by omega) hs' hm
  · exact qunpackMsg_mark v xs w hv (by omega) (by omega) hs' hm
end Go.Proofs.Ytoaoldhajpbenaa

namespace Go.Proofs.Ytoaoldhajpbenaa
open Go.RowKit

theorem grown_setO {w w' : World} {r : Option Nat} {g : Nat} (h : w.grownBy w' r) (hr : r = some g) (k : Nat) (u : Value) : w.grownBy (w'.setCell ⟨g, k, none⟩ u) r := by subst hr; exact grown_set h k u

theorem grown_new' {w w' : World} {r : Option Nat} (h : w.grownBy w' r) {b k : Nat} (hb : w.heap.size ≤ b) (u : Value) : w.grownBy (w'.setCell ⟨b, k, none⟩ u) r :=
  ⟨h.os, h.tape, h.output, by simp [World.setCell]; exact h.size, fun i hi hne => (Below.heap_setCell w' ⟨b, k, none⟩ u i (by simp; omega)).trans (h.block i hi hne)⟩
/-- Bytes that are lent: n of them, and a mark behind. -/
def LentAt (B : Nat) (w : World) (v : Value) (xs : List UInt8) : Prop :=
  ∃ g cap, v = .slice (some ⟨g, 0, none⟩) xs.length cap ∧ w.ownsRow B 5 1 (.slice (some ⟨g, 0, none⟩) (xs.length + 1) cap) (xs.length + 1) (byteCells (xs ++ [167]))

theorem lent_form {w : World} {B n : Nat} {u : Value} {cs : List Value} (h : w.ownsRow B 5 1 u (n + 1) cs) : ∃ g cap, u = .slice (some ⟨g, 0, none⟩) (n + 1) cap ∧ (n : Int) + 1 ≤ cap ∧ cap ≠ 0 ∧ cap ≤ 9223372036854775807 := by
  rcases h.2 with ⟨_, h⟩ | ⟨g, cap, cur, h, _, _, h1, h2, _⟩
  · omega
  · exact ⟨g, cap, h, by omega, by omega, by unfold maxLen at h2; omega⟩

set_option maxRecDepth 100000 in
set_option maxHeartbeats 1000000 in
theorem lent_any (S : Nat → Prop) (v : Value) (xs : List UInt8) (w : World) (hv : Bytes S w v xs) (h47 : xs.length < 140737488355328) :
    Calls Try.prog 26 #[v] w fun e w' => ∃ u, e = .returned u ∧ LentAt w.heap.size w' u xs ∧ Below w.heap.size w w' := by
  obtain ⟨i0, hi, hz0, hz1, hz2⟩ := info_parts infoU8
  have Hv := Lib.hid hv
  have HL := Lib.hid h47
  have h63 : (xs.length : Int) ≤ 9223372036854775807 := by omega
  have hh : (0 : Int) ≤ xs.length := by omega
  obtain ⟨A, c, rfl⟩ := hv.slice
  clear hv h47
  go_enter Try.func26, Try.ntmps26
  go_wp2_with (first | (at_builtin; refine wpList_append_bytes (S := S) _ rfl _ _ rfl _ _ rfl rfl w.heap.size 0 [] (World.ownsRow_nil _ _ _ _) xs Hv.out (by have := HL.out; omega) (Nat.le_refl _) ?_; intro u1 w1 hown hgr _; have hb := (Below.refl w.heap.size w).grown hgr (Nat.le_refl _) (own_blk_ge (World.ownsRow_nil w w.heap.size 5 1)); have Hown := Lib.hid hown; clear hown hgr) | (at_builtin; refine wpList_append_own_at _ rfl _ _ 31 rfl w.heap.size 5 i0 (.int .u8 0) 1 1 Try.underlying31 hi hz0 hz1 hz2 rfl (by decide) u1 _ _ rfl (own_keep Hown.out (box_below w1 (.cells #[.int .u8 167] 5))) ⟨w1.heap.size, 0, none⟩ 1 1 [.int .u8 167] rfl rfl (cell_one _ _ _) (by simp [Value.oneCell']) (by have := HL.out; simp [maxLen]; omega) (by have := HL.out; simp; omega) (by have := hb.size; simp; omega) ?_; intro u2 w2 hown2 hgr2 _ hat2; have hb2 := (below_alloc hb (.cells #[.int .u8 167] 5)).grown hgr2 (by have := hb.size; simp; omega) (own_blk_ge Hown.out); obtain ⟨g, cap, rfl, hcap2, hcap3, hcm⟩ := lent_form hown2; have Hown2 := Lib.hid hown2; clear hown2 hgr2 hat2))
  go_ret
  refine ⟨_, rfl, ⟨g, cap, by simp, ?_⟩, hb2⟩
  have h := Hown2.out
  rw [Nat.zero_add, List.nil_append] at h
  rw [byteCells_append]
  exact h

set_option maxRecDepth 100000 in
set_option maxHeartbeats 1000000 in
theorem kept_any (S : Nat → Prop) (B : Nat) (u v : Value) (xs : List UInt8) (w : World) (hu : LentAt B w u xs) (hv : Bytes S w v xs) (h47 : xs.length < 140737488355328) :
    Calls Try.prog 31 #[u, v] w fun e w' => e = .returned (.bool true) ∧ w = w' := by
  obtain ⟨g, cap, rfl, hown⟩ := hu
  obtain ⟨hcap, hcm⟩ : xs.length + 1 ≤ cap ∧ cap ≤ 9223372036854775807 := by
    rcases hown.2 with ⟨_, h⟩ | ⟨g, cap', cur, h, _, _, h1, h2, _⟩
    · omega
    · injection h with _ _ h
      subst h
      exact ⟨h1, by unfold maxLen at h2; omega⟩
  have hby : Bytes (B ≤ ·) w (.slice (some ⟨g, 0, none⟩) xs.length cap) xs := by
    have h1 := RowAt.of_own hown
    have h2 := RowAt.cut (sz := 1) h1 0 xs.length cap (by omega) (by omega) (by unfold maxLen; omega)
    unfold Bytes
    simpa [byteCells_append, byteCells_length] using h2
  obtain ⟨hc, hf⟩ := own_cell (i := xs.length) hown (u := .int .u8 167) (by simp [byteCells])
  have s1 := bytes_str hby
  have s2 := bytes_str hv
  obtain ⟨A, c, rfl⟩ := hv.slice
  have hcap2 : (xs.length : Int) + 1 ≤ cap := by omega
  have hcap3 : cap ≠ 0 := by omega
  have h1 : (xs.length : Int) ≤ 140737488355328 := by omega
  have h2 : xs.length < xs.length + 1 := by omega
  clear hown hby hv hcap h47
  go_enter Try.func31, Try.ntmps31
  go_wp2_with fail
  go_ret
  exact ⟨by simp, rfl⟩

set_option maxRecDepth 100000 in
set_option maxHeartbeats 2000000 in
/-- A row of the call's own is written over: that row alone, and what is new. -/
theorem spoil_any (B : Nat) (u : Value) (n : Nat) (cs : List Value) (w : World) (hown : w.ownsRow B 5 1 u n cs) (h47 : n < 140737488355328) (hB : B ≤ w.heap.size) :
    Calls Try.prog 32 #[u] w fun e w' => (∃ v, e = .returned v) ∧ w.grownBy w' u.ownBlock := by
  obtain ⟨i0, hi, hz0, hz1, hz2⟩ := info_parts infoU8
  obtain ⟨A, c, rfl⟩ := (RowAt.of_own hown).slice
  have Hown := Lib.hid hown
  have H47 := Lib.hid (And.intro h47 hB)
  have h63 : (n : Int) ≤ 9223372036854775806 := by omega
  clear hown h47 hB
  go_enter Try.func32, Try.ntmps32
  go_wp2_with fail
  go_loopw [2] (fun i wr => ∃ (k : Nat) (ds : List Value), k ≤ n ∧ i = .int .i64 k ∧ wr.ownsRow B 5 1 (.slice A n c) n ds ∧ w.grownBy wr (Value.slice A n c).ownBlock) (fun i _ => n - (intOf i).toNat)
  case atStart => exact ⟨0, cs, Nat.zero_le _, rfl, Hown.out, ⟨rfl, rfl, rfl, Nat.le_refl _, fun _ _ _ => rfl⟩⟩
  case round =>
    obtain ⟨k, ds, hk, rfl, hown, hgr⟩ := hrel
    have Hown1 := Lib.hid hown
    have Hgr := Lib.hid hgr
    by_cases hlt : k < n
    · obtain ⟨g, cap, hu, -⟩ : ∃ g cap, Value.slice A n c = .slice (some ⟨g, 0, none⟩) n cap ∧ True := by
        rcases hown.2 with ⟨_, h⟩ | ⟨g, cap, cur, h, _⟩
        · omega
        · exact ⟨g, cap, h, trivial⟩
      injection hu with hu _ hu2
      subst hu hu2
      have hl : ds.length = n := by have := hown.1; omega
      obtain ⟨x, hx⟩ : ∃ x, ds[k]? = some x := ⟨_, List.getElem?_eq_getElem (by omega)⟩
      obtain ⟨hc, hf⟩ := own_cell (i := k) hown hx
      have hlt2 : (k : Int) < (n : Int) := by omega
      clear hown hgr hl hx
      go_wp2_with fail
      go_roundw
      case rel => exact ⟨k + 1, _, hlt, by simp, own_store Hown1.out hlt _, grown_setO Hgr.out rfl _ _⟩
      case measure => simp [intOf]; omega
    · obtain rfl : k = n := by omega
      clear hown hgr
      have hbw : w.heap.size ≤ wr.heap.size := Hgr.out.size
      go_wp2_with (at_builtin; refine wpList_append_own_at _ rfl _ _ 31 rfl B 5 i0 (.int .u8 0) 1 1 Try.underlying31 hi hz0 hz1 hz2 rfl (by decide) (.slice A k c) _ _ rfl (own_keep Hown1.out (box_below wr (.cells #[.int .u8 91] 5))) ⟨wr.heap.size, 0, none⟩ 1 1 [.int .u8 91] rfl rfl (cell_one _ _ _) (by simp [Value.oneCell']) ?h63 ?h47 ?hB ?_)
      case h63 => have := H47.out; simp [maxLen]; omega
      case h47 => have := H47.out; simp; omega
      case hB => have := H47.out; simp; omega
      intro u2 w2 hown2 hgr2 _ hat2
      obtain ⟨g, cap, rfl, hcap2, hcap3, hcm⟩ := lent_form hown2
      obtain ⟨x, hx⟩ : ∃ x, (ds ++ [Value.int .u8 91])[k]? = some x := ⟨_, List.getElem?_eq_getElem (by have := hown2.1; omega)⟩
      obtain ⟨hc, hf⟩ := own_cell (i := k) hown2 hx
      have Hat := Lib.hid hat2
      have Hgr2 := Lib.hid hgr2
      have hkk : (k : Int) < (k : Int) + 1 := by omega
      clear hown2 hgr2 hat2 hx
      go_wp2_with fail
      go_end0
      refine ⟨⟨_, rfl⟩, ?_⟩
      have hg2 := grown_trans (grown_below Hgr.out (box_below wr (.cells #[.int .u8 91] 5))) Hgr2.out
      rcases Hat.out with h | h
      · exact grown_setO hg2 (by rw [← h]; rfl) _ _
      · have hgg : g = wr.heap.size + 1 := by
          injection h with h
        exact grown_new' hg2 (by omega) _
end Go.Proofs.Ytoaoldhajpbenaa

namespace Go.Proofs.Ytoaoldhajpbenaa

/-- A log: its floor and its runs. -/
structure Lg where
  a : Int
  t : Int
  m : Int
  rs : List (Int × List Ent)
def Lg.parts (g : Lg) : List Part := .ground g.a g.t g.m :: g.rs.map fun r => .run r.1 r.2
def allOf (rs : List (Int × List Ent)) : List Ent := rs.flatMap (·.2)
def Lg.ents (g : Lg) : List Ent := allOf g.rs
/-- Runs one behind the other, their terms rising. -/
def Chain (p t : Int) : List (Int × List Ent) → Prop
  | [] => True
  | (f, l) :: rs => f = p ∧ l ≠ [] ∧ (∀ e ∈ l, e.term = headTerm l ∧ rightB e = true) ∧ t ≤ headTerm l ∧ Chain (f + l.length) (headTerm l + 1) rs
structure Lg.Good (g : Lg) : Prop where
  a0 : 0 ≤ g.a
  a1 : g.a ≤ 1099511627776
  t0 : 0 ≤ g.t
  t1 : g.t ≤ 1099511627776
  m0 : 1 ≤ g.m
  m1 : g.m ≤ 31
  chain : Chain (g.a + 1) g.t g.rs
  len : g.ents.length ≤ 4096
def Lg.top (g : Lg) : Int := g.a + g.ents.length
def Lg.termAt (g : Lg) (n : Int) : Int :=
  if n = g.a then g.t else if g.a < n ∧ n ≤ g.top then ((g.ents[(n - g.a - 1).toNat]?).map (·.term)).getD 0 else -1

theorem allOf_cons (r : Int × List Ent) (rs : List (Int × List Ent)) : allOf (r :: rs) = r.2 ++ allOf rs := by simp [allOf]
theorem allOf_append (rs qs : List (Int × List Ent)) : allOf (rs ++ qs) = allOf rs ++ allOf qs := by simp [allOf]

theorem Chain.at {p t : Int} : ∀ {rs : List (Int × List Ent)}, Chain p t rs → ∀ j (h : j < rs.length), rs[j].1 = p + (allOf (rs.take j)).length ∧ rs[j].2 ≠ [] ∧ (∀ e ∈ rs[j].2, e.term = headTerm rs[j].2 ∧ rightB e = true) ∧ t ≤ headTerm rs[j].2
  | [], _, j, h => by simp at h
  | (f, l) :: rs, ⟨h1, h2, h3, h4, h5⟩, 0, _ => ⟨by simp [allOf, h1], h2, h3, h4⟩
  | (f, l) :: rs, ⟨h1, h2, h3, h4, h5⟩, j + 1, h => by
    obtain ⟨a1, a2, a3, a4⟩ := Chain.at h5 j (by simpa using h)
    refine ⟨?_, by simpa using a2, by simpa using a3, by simp at a4 ⊢; omega⟩
    simp [allOf_cons] at a1 ⊢
    omega

theorem take_at (rs : List (Int × List Ent)) (j : Nat) (h : j < rs.length) : allOf rs = allOf (rs.take j) ++ (rs[j].2 ++ allOf (rs.drop (j + 1))) := by
  have e : rs = rs.take j ++ rs[j] :: rs.drop (j + 1) := by simp
  calc allOf rs = allOf (rs.take j ++ rs[j] :: rs.drop (j + 1)) := by rw [← e]
    _ = _ := by rw [allOf_append, allOf_cons]

theorem len_le_at (rs : List (Int × List Ent)) (j : Nat) (h : j < rs.length) : (allOf (rs.take j)).length + rs[j].2.length ≤ (allOf rs).length := by
  rw [take_at rs j h]; simp

/-- Each place above the floor lies in a run. -/
theorem Chain.find {p t : Int} : ∀ {rs : List (Int × List Ent)}, Chain p t rs → ∀ n : Int, p ≤ n → n < p + (allOf rs).length → ∃ j, ∃ h : j < rs.length, rs[j].1 ≤ n ∧ n ≤ rs[j].1 + rs[j].2.length - 1
  | [], _, n, h1, h2 => by simp [allOf] at h2; omega
  | (f, l) :: rs, ⟨e1, e2, e3, e4, e5⟩, n, h1, h2 => by
    by_cases hn : n ≤ f + l.length - 1
    · exact ⟨0, by simp, by simp; omega, by simpa using hn⟩
    · obtain ⟨j, hj, a1, a2⟩ := Chain.find e5 n (by omega) (by simp [allOf_cons] at h2; omega)
      exact ⟨j + 1, by simpa using hj, by simpa using a1, by simpa using a2⟩

theorem Lg.parts_length (g : Lg) : g.parts.length = g.rs.length + 1 := by simp [Lg.parts]
theorem Lg.parts_zero (g : Lg) : g.parts[0]'(by simp [Lg.parts]) = .ground g.a g.t g.m := rfl
theorem Lg.parts_succ (g : Lg) (j : Nat) (h : j < g.rs.length) : g.parts[j + 1]'(by simp [Lg.parts]; omega) = .run g.rs[j].1 g.rs[j].2 := by simp [Lg.parts]

theorem runs_le_all : ∀ (rs : List (Int × List Ent)), (∀ r ∈ rs, r.2 ≠ []) → rs.length ≤ (allOf rs).length
  | [], _ => by simp
  | r :: rs, h => by
    have := runs_le_all rs (fun q hq => h q (by simp [hq]))
    have h1 := List.length_pos_iff.2 (h r (by simp))
    simp [allOf_cons]; omega
theorem Chain.ne {p t : Int} : ∀ {rs : List (Int × List Ent)}, Chain p t rs → ∀ r ∈ rs, r.2 ≠ []
  | [], _, r, h => by simp at h
  | (f, l) :: rs, ⟨_, e2, _, _, e5⟩, r, h => by
    rcases List.mem_cons.1 h with rfl | h
    · exact e2
    · exact Chain.ne e5 r h

theorem Lg.Good.run_ok {g : Lg} (h : g.Good) (j : Nat) (hj : j < g.rs.length) : (Part.run g.rs[j].1 g.rs[j].2).ok := by
  obtain ⟨a1, a2, _⟩ := h.chain.at j hj
  have := len_le_at g.rs j hj
  have := h.len; have := h.a0; have := h.a1
  have := List.length_pos_iff.2 a2
  unfold Lg.ents at *
  exact ⟨by omega, by omega, by omega, by omega⟩
theorem Lg.Good.ok {g : Lg} (h : g.Good) : ∀ q ∈ g.parts, q.ok := by
  intro q hq
  obtain ⟨i, hi, rfl⟩ := List.getElem_of_mem hq
  cases i with
  | zero => exact ⟨h.a0, h.a1⟩
  | succ j => rw [g.parts_succ j (by simpa [Lg.parts] using hi)]; exact h.run_ok j _
theorem Lg.Good.parts_le {g : Lg} (h : g.Good) : g.parts.length ≤ 4097 := by
  have := runs_le_all g.rs h.chain.ne
  have := h.len
  unfold Lg.ents at *
  rw [g.parts_length]; omega

/-- A place that no part has is below the floor or above the top. -/
theorem Lg.Good.noPart {g : Lg} (h : g.Good) {n : Int} (hn : ∀ j (hj : j < g.parts.length), g.parts[j].has n = false) : n < g.a ∨ g.top < n := by
  by_cases h1 : n < g.a
  · exact .inl h1
  · have h0 := hn 0 (by simp [Lg.parts])
    rw [g.parts_zero] at h0
    simp [Part.has] at h0
    by_cases h2 : g.top < n
    · exact .inr h2
    · exfalso
      unfold Lg.top Lg.ents at h2
      obtain ⟨j, hj, a1, a2⟩ := h.chain.find n (by omega) (by omega)
      have := hn (j + 1) (by simp [Lg.parts]; omega)
      rw [g.parts_succ j hj] at this
      simp [Part.has] at this
      omega
theorem Lg.termAt_none {g : Lg} {n : Int} (h : n < g.a ∨ g.top < n) : g.termAt n = -1 := by
  unfold Lg.termAt
  have : ¬ n = g.a := by unfold Lg.top at h; omega
  rw [if_neg this, if_neg (by omega)]

/-- Where a part has a place: what is known of it. -/
theorem Lg.Good.part {g : Lg} (h : g.Good) {n : Int} {i : Nat} (hi : i < g.parts.length) (hp : g.parts[i].has n = true) :
    (i = 0 ∧ n = g.a) ∨ ∃ j, ∃ hj : j < g.rs.length, i = j + 1 ∧ g.a < n ∧ n ≤ g.top ∧ g.rs[j].1 ≤ n ∧ n ≤ g.rs[j].1 + g.rs[j].2.length - 1 ∧ g.rs[j].1 = g.a + 1 + (allOf (g.rs.take j)).length ∧
      g.ents[(n - g.a - 1).toNat]? = g.rs[j].2[(n - g.rs[j].1).toNat]? := by
  cases i with
  | zero => rw [g.parts_zero] at hp; simp [Part.has] at hp; exact .inl ⟨rfl, hp⟩
  | succ j =>
    have hj : j < g.rs.length := by simpa [Lg.parts] using hi
    rw [g.parts_succ j hj] at hp
    simp [Part.has] at hp
    obtain ⟨a1, a2, _⟩ := h.chain.at j hj
    have hl := len_le_at g.rs j hj
    refine .inr ⟨j, hj, rfl, by omega, by unfold Lg.top Lg.ents; omega, hp.1, hp.2, a1, ?_⟩
    unfold Lg.ents
    rw [take_at g.rs j hj, List.getElem?_append_right (by omega), List.getElem?_append_left (by omega)]
    congr 1
    omega
theorem Lg.Good.termAt_ground {g : Lg} : g.termAt g.a = g.t := by simp [Lg.termAt]
theorem Lg.Good.termAt_run {g : Lg} (h : g.Good) {n : Int} {j : Nat} (hj : j < g.rs.length) (h1 : g.a < n) (h2 : n ≤ g.top) (h3 : g.rs[j].1 ≤ n) (h4 : n ≤ g.rs[j].1 + g.rs[j].2.length - 1)
    (he : g.ents[(n - g.a - 1).toNat]? = g.rs[j].2[(n - g.rs[j].1).toNat]?) : g.termAt n = headTerm g.rs[j].2 := by
  unfold Lg.termAt
  rw [if_neg (by omega), if_pos ⟨h1, h2⟩, he, List.getElem?_eq_getElem (by omega)]
  simp only [Option.map_some, Option.getD_some]
  exact ((h.chain.at j hj).2.2.1 _ (List.getElem_mem _)).1
theorem head_term {l : List Ent} (h : 0 < l.length) : headTerm l = l[0].term := by
  cases l with
  | nil => simp at h
  | cons x xs => rfl
/-- The last part: the floor alone, or a run that ends at the top. -/
theorem Lg.Good.last {g : Lg} (h : g.Good) :
    (g.rs = [] ∧ g.parts[g.parts.length - 1]'(by simp [Lg.parts]) = .ground g.a g.t g.m ∧ g.top = g.a ∧ g.termAt g.top = g.t) ∨
    ∃ f l, g.parts[g.parts.length - 1]'(by simp [Lg.parts]) = .run f l ∧ (Part.run f l).ok ∧ g.top = f + l.length - 1 ∧ g.termAt g.top = headTerm l ∧ g.a < g.top ∧
      g.rs = g.rs.take (g.rs.length - 1) ++ [(f, l)] := by
  rcases Nat.eq_zero_or_pos g.rs.length with h0 | h0
  · have hr : g.rs = [] := List.eq_nil_of_length_eq_zero h0
    have ht : g.top = g.a := by simp [Lg.top, Lg.ents, hr, allOf]
    exact .inl ⟨hr, by simp [Lg.parts, hr], ht, by rw [ht]; exact Lg.Good.termAt_ground⟩
  · have hj : g.rs.length - 1 < g.rs.length := by omega
    have hp : g.parts[g.parts.length - 1]'(by simp [Lg.parts]) = .run g.rs[g.rs.length - 1].1 g.rs[g.rs.length - 1].2 := by
      rw [← g.parts_succ _ hj]; congr 1; simp [Lg.parts]; omega
    obtain ⟨a1, a2, a3, a4⟩ := h.chain.at _ hj
    have hall := take_at g.rs _ hj
    have hd : g.rs.drop (g.rs.length - 1 + 1) = [] := by simp; omega
    rw [hd] at hall
    have hlen : (allOf g.rs).length = (allOf (g.rs.take (g.rs.length - 1))).length + g.rs[g.rs.length - 1].2.length := by rw [hall]; simp [allOf]
    have ht : g.top = g.rs[g.rs.length - 1].1 + g.rs[g.rs.length - 1].2.length - 1 := by unfold Lg.top Lg.ents; omega
    have hl := List.length_pos_iff.2 a2
    have hat : g.a < g.top := by unfold Lg.top Lg.ents; omega
    refine .inr ⟨_, _, hp, h.run_ok _ hj, ht, ?_, hat, ?_⟩
    · refine h.termAt_run hj hat (Int.le_refl _) (by omega) (by omega) ?_
      have hi : (g.top - g.a - 1).toNat = g.ents.length - 1 := by unfold Lg.top; omega
      rw [hi, show (g.top - g.rs[g.rs.length - 1].1).toNat = g.rs[g.rs.length - 1].2.length - 1 by omega]
      unfold Lg.ents
      rw [hlen, hall, List.getElem?_append_right (by omega), List.getElem?_append_left (by omega)]
      congr 1
      omega
    · conv => lhs; rw [← List.take_append_drop (g.rs.length - 1) g.rs]
      congr 1
      rw [List.drop_eq_getElem_cons hj, hd]
end Go.Proofs.Ytoaoldhajpbenaa

namespace Go.Proofs.Ytoaoldhajpbenaa
open Go.RowKit

/-- No part ahead of the k-th has the place n. -/
def NoneHas (ps : List Part) (n : Int) (k : Nat) : Prop := ∀ j (h : j < ps.length), j < k → ps[j].has n = false
theorem NoneHas.zero (ps : List Part) (n : Int) : NoneHas ps n 0 := fun _ _ h => by omega
theorem NoneHas.succ {ps : List Part} {n : Int} {k : Nat} (h : NoneHas ps n k) (hk : k < ps.length) (h' : ps[k].has n = false) : NoneHas ps n (k + 1) := fun j hj hj' => by
  by_cases e : j = k
  · subst e; exact h'
  · exact h j hj (by omega)
/-- What 'find' answers. -/
def FindPost (S : Nat → Prop) (w : World) (ps : List Part) (n : Int) (e : Ending) : Prop :=
  (∃ (i : Nat) (h : i < ps.length) (v : Value), ps[i].has n = true ∧ NoneHas ps n i ∧ PartV S w v ps[i] ∧ e = .returned (.tuple #[v, .int .i64 i])) ∨
  (NoneHas ps n ps.length ∧ e = .returned (.tuple #[.nilIface, .int .i64 0]))

set_option maxRecDepth 100000 in
set_option maxHeartbeats 1000000 in
theorem find_any {S : Nat → Prop} (p : Value) (ps : List Part) (n : Int) (w : World) (h : LogAt S w p ps) (hok : ∀ q ∈ ps, q.ok) (hlen : ps.length ≤ 4097) :
    Calls Try.prog 42 #[p, .int .i64 n] w fun e w' => FindPost S w ps n e ∧ Below w.heap.size w w' := by
  obtain ⟨b, sv, vs, rfl, hSb, hcell, hrow, hpc⟩ := h
  clear hSb
  have hl0 := hpc.length
  rcases hrow.2 with ⟨h0, h1⟩ | ⟨pb, po, pc, rfl, hn, hc, hSp, hlt, hcells⟩
  · obtain rfl : ps = [] := List.eq_nil_of_length_eq_zero h0
    obtain ⟨A, c, rfl⟩ : ∃ A c, sv = .slice A 0 c := by
      rcases h1 with rfl | ⟨a, c, rfl⟩
      · exact ⟨_, _, rfl⟩
      · exact ⟨_, _, rfl⟩
    clear hrow hpc hl0 hok h0 h1
    go_enter Try.func42, Try.ntmps42
    go_wp2_with fail
    refine wp_loop_rounds 1 ?_
    rw [rounds_succ]
    go_wp2_with fail
    go_ret2
    exact ⟨.inr ⟨fun j hj => by simp at hj, rfl⟩, Below.refl _ _⟩
  · clear hSp
    unfold maxLen at hc
    have HC := Lib.hid hcells
    have HP := Lib.hid hpc
    have HR := Lib.hid hrow
    have HL := Lib.hid hl0
    have HOK := Lib.hid hok
    clear hcells hpc hrow hl0 hok
    go_enter Try.func42, Try.ntmps42
    go_wp2_with fail
    go_loopw [6, 7, 8, 9, 10, 11, 19] (fun _ _ _ _ _ _ i wr => ∃ k : Nat, k ≤ ps.length ∧ i = .int .i64 k ∧ Below w.heap.size w wr ∧ NoneHas ps n k) (fun _ _ _ _ _ _ i _ => ps.length - (intOf i).toNat)
    case atStart => exact ⟨0, Nat.zero_le _, rfl, Below.refl _ _, NoneHas.zero _ _⟩
    case round =>
      obtain ⟨k, hk, rfl, hb, hno⟩ := hrel
      have Hno := Lib.hid hno
      clear hno
      by_cases hlt' : k < ps.length
      · obtain ⟨v, hv, hpv⟩ := HP.out.at k hlt'
        have hcv := cell_keep hb (HC.out k v hv)
        have hok := HOK.out _ (List.getElem_mem hlt')
        have HPV := Lib.hid hpv
        cases hq : ps[k] with
        | ground a t m =>
          rw [hq] at hpv hok
          obtain rfl := hpv
          have Hq := Lib.hid hq
          have Hok := Lib.hid hok
          have Hv := Lib.hid hv
          clear hv hq hok
          go_wp2_with (go_at_call 127; refine (last_ground a t m _).mono ?_; rintro e w1 ⟨rfl, hb1⟩)
          · have he : (n == a) = true := by assumption
            go_ret2
            exact ⟨.inl ⟨k, hlt', _, by rw [Hq.out]; simpa [Part.has] using he, Hno.out, HPV.out, rfl⟩, hb.trans ((hb1.alloc hb1.size _).mono hb.size)⟩
          · have he : (n == a) = false := by assumption
            go_roundw
            case rel => exact ⟨k + 1, by omega, by go_num, hb.trans ((hb1.alloc hb1.size _).mono hb.size), Hno.out.succ hlt' (by rw [Hq.out]; simpa [Part.has] using he)⟩
            case measure => simp [intOf]; omega
        | run f l =>
          rw [hq] at hpv hok
          obtain ⟨sv, rfl, cs, hrl, hec⟩ := hpv
          obtain ⟨ho1, ho2, ho3, ho4⟩ := hok
          obtain ⟨rb, ro, rc, rfl, _, hrc, _, _, hrcell⟩ := hrl.form ho3
          obtain ⟨cv, hc0, hc1, hc2, _⟩ := hec.at 0 ho3
          have hterm := cell_keep hb (hrcell _ _ hc1)
          have Hq := Lib.hid hq
          have Hv := Lib.hid hv
          clear hv hq hc0 hc1 hc2 hrcell hec hrl
          simp only [Nat.zero_mul, Nat.zero_add] at hterm
          go_wp2_with (go_at_call 126; refine (last_run f _ rb ro l.length rc _ hterm ho3 ho4 ho1 ho2).mono ?_; rintro e w1 ⟨rfl, hb1⟩)
          · have he1 : f ≤ n := by assumption
            have he2 : n ≤ f + l.length - 1 := by assumption
            go_ret2
            exact ⟨.inl ⟨k, hlt', _, by rw [Hq.out]; simp [Part.has, he1, he2], Hno.out, HPV.out, rfl⟩, hb.trans ((hb1.alloc hb1.size _).mono hb.size)⟩
          · have he2 : f + l.length - 1 < n := by assumption
            go_roundw
            case rel => exact ⟨k + 1, by omega, by go_num, hb.trans ((hb1.alloc hb1.size _).mono hb.size), Hno.out.succ hlt' (by rw [Hq.out]; simp [Part.has]; omega)⟩
            case measure => simp [intOf]; omega
          · have he2 : ¬ f ≤ n := by assumption
            go_roundw
            case rel => exact ⟨k + 1, by omega, by go_num, hb.trans ((hb1.alloc hb1.size _).mono hb.size), Hno.out.succ hlt' (by rw [Hq.out]; simp [Part.has]; omega)⟩
            case measure => simp [intOf]; omega
      · obtain rfl : k = ps.length := by omega
        go_wp2_with fail
        go_ret2
        exact ⟨.inr ⟨Hno.out, rfl⟩, hb⟩

/-- Of a good log. -/
theorem find_lg {S : Nat → Prop} (p : Value) (g : Lg) (n : Int) (w : World) (h : LogAt S w p g.parts) (hg : g.Good) :
    Calls Try.prog 42 #[p, .int .i64 n] w fun e w' => FindPost S w g.parts n e ∧ Below w.heap.size w w' :=
  find_any p g.parts n w h hg.ok hg.parts_le

theorem eql_nil_part (T : TypeId) (v : Value) (w : World) : (binOp .eql 82 (.iface T v) .nilIface).run Try.prog w = .ok (.bool false) w := by kernel_rfl
theorem neq_nil_part (T : TypeId) (v : Value) (w : World) : (binOp .neq 82 (.iface T v) .nilIface).run Try.prog w = .ok (.bool true) w := by kernel_rfl
theorem eql_nil_nil (w : World) : (binOp .eql 82 .nilIface .nilIface).run Try.prog w = .ok (.bool true) w := by kernel_rfl
theorem neq_nil_nil (w : World) : (binOp .neq 82 .nilIface .nilIface).run Try.prog w = .ok (.bool false) w := by kernel_rfl
attribute [go_sem] eql_nil_part neq_nil_part eql_nil_nil neq_nil_nil

set_option maxHeartbeats 1000000 in
theorem term_any {S : Nat → Prop} (p : Value) (g : Lg) (n : Int) (w : World) (h : LogAt S w p g.parts) (hg : g.Good) :
    Calls Try.prog 14 #[p, .int .i64 n] w fun e w' => e = .returned (.int .i64 (g.termAt n)) ∧ Below w.heap.size w w' := by
  have Hf := Lib.hid (find_lg p g n w h hg)
  go_enter Try.func14, Try.ntmps14
  go_wp2_with fail
  refine Hf.out.mono ?_
  rintro e w1 ⟨hp, hb⟩
  rcases hp with ⟨i, hi, v, hh, hno, hv, rfl⟩ | ⟨hno, rfl⟩
  · rcases hg.part hi hh with ⟨rfl, rfl⟩ | ⟨j, hj, rfl, h1, h2, h3, h4, -, he⟩
    · rw [g.parts_zero] at hv
      obtain rfl := hv
      clear hno
      go_wp2_with (go_at_call 127; refine (last_ground g.a g.t g.m _).mono ?_; rintro e w2 ⟨rfl, hb2⟩)
      go_ret
      exact ⟨by rw [Lg.Good.termAt_ground]; rfl, below_then hb hb2⟩
    · rw [g.parts_succ j hj] at hv
      have HT := Lib.hid (hg.termAt_run hj h1 h2 h3 h4 he)
      obtain ⟨k1, k2, k3, k4⟩ := hg.run_ok j hj
      clear h3 h4 he hh
      obtain ⟨sv, rfl, cs, hrl, hec⟩ := hv
      obtain ⟨rb, ro, rc, rfl, _, hrc, _, _, hrcell⟩ := hrl.form k3
      obtain ⟨cv, hc0, hc1, hc2, _⟩ := hec.at 0 k3
      have hterm := cell_keep hb (hrcell _ _ hc1)
      simp only [Nat.zero_mul, Nat.zero_add] at hterm
      clear hno hc0 hc1 hc2 hrcell hec hrl
      go_wp2_with (go_at_call 126; refine (last_run _ _ rb ro _ rc _ hterm k3 k4 k1 k2).mono ?_; rintro e w2 ⟨rfl, hb2⟩)
      go_ret
      refine ⟨?_, below_then hb hb2⟩
      rw [HT.out, head_term k3]
      rfl
  · have HT := Lib.hid (Lg.termAt_none (hg.noPart fun j hj => hno j hj hj))
    clear hno
    go_wp2_with fail
    go_ret
    exact ⟨by rw [HT.out]; rfl, hb⟩
end Go.Proofs.Ytoaoldhajpbenaa

namespace Go.Proofs.Ytoaoldhajpbenaa
open Go.RowKit
attribute [local go_sem ↓] Go.wp_at_zero Go.wp_at_succ

theorem field_ground0 (a t m : Int) (w : World) : (Instr.field 97 (.agg #[.int .i64 a, .int .i64 t, .int .i64 m]) 0).run Try.prog w = .ok (.int .i64 a) w := by kernel_rfl
theorem field_ground2 (a t m : Int) (w : World) : (Instr.field 97 (.agg #[.int .i64 a, .int .i64 t, .int .i64 m]) 2).run Try.prog w = .ok (.int .i64 m) w := by kernel_rfl
attribute [go_sem] field_ground0 field_ground2

set_option maxHeartbeats 1000000 in
theorem ground_any {S : Nat → Prop} (p : Value) (g : Lg) (w : World) (h : LogAt S w p g.parts) :
    Calls Try.prog 48 #[p] w fun e w' => e = .returned (.agg #[.int .i64 g.a, .int .i64 g.t, .int .i64 g.m]) ∧ Below w.heap.size w w' := by
  obtain ⟨b, sv, vs, rfl, -, hcell, hrow, hpc⟩ := h
  obtain ⟨pb, po, pc, rfl, hn, hc, -, hlt, hcells⟩ := hrow.form (by simp [Lg.parts])
  obtain ⟨v, hv, hpv⟩ := hpc.at 0 (by simp [Lg.parts])
  have hcv := hcells 0 v hv
  rw [g.parts_zero] at hpv
  obtain rfl := hpv
  rw [Nat.add_zero] at hcv
  have h1 : (0 : Int) < (g.parts.length : Int) := by simp [Lg.parts]
  have hb := block_lt hcell
  clear hcells hpc hrow hv hn hc
  go_enter Try.func48, Try.ntmps48
  go_wp2_with fail
  refine bodyPost_ret (v := .agg #[.int .i64 g.a, .int .i64 g.t, .int .i64 g.m]) (by simp [results, Try.results48, go_sem]) rfl ⟨rfl, ?_⟩
  exact (box_below _ _).alloc (by simp) _

set_option maxHeartbeats 1000000 in
theorem top_run {S : Nat → Prop} (p : Value) (g : Lg) (w : World) (h : LogAt S w p g.parts) (hg : g.Good) :
    Calls Try.prog 19 #[p] w fun e w' => e = .returned (.tuple #[.int .i64 g.top, .int .i64 (g.termAt g.top)]) ∧ Below w.heap.size w w' := by
  obtain ⟨b, sv, vs, rfl, -, hcell, hrow, hpc⟩ := h
  obtain ⟨pb, po, pc, rfl, hn, hc, -, hlt, hcells⟩ := hrow.form (by simp [Lg.parts])
  obtain ⟨v, hv, hpv⟩ := hpc.at (g.parts.length - 1) (by simp [Lg.parts])
  have hcv := hcells _ v hv
  have hlen := g.parts_length
  have hle := hg.parts_le
  have hp0 : 0 < g.parts.length := by omega
  have hb := block_lt hcell
  have hl := hg.last
  clear hlen hcells hpc hrow hv hn hc
  rcases hl with ⟨-, hpe, ht, htt⟩ | ⟨f, l, hpe, hok, ht, htt, -, -⟩
  · rw [hpe] at hpv
    obtain rfl := hpv
    have HT := Lib.hid ht
    have HTT := Lib.hid htt
    clear hpe ht htt
    generalize g.parts.length = n at *
    have e1 : IntKind.i64.wrap ((n : Int) - 1) = (n : Int) - 1 := IntWalk.i64_in _ (by omega)
    have e2 : (0 : Int) ≤ (n : Int) - 1 := by omega
    have e3 : (n : Int) - 1 < (n : Int) := by omega
    have e5 : (1 : Int) ≤ (n : Int) := by omega
    have e4 : ((n : Int) - 1).toNat = n - 1 := by omega
    go_enter Try.func19, Try.ntmps19
    go_wp2_with fail
    go_region_held3 (fun w' => w'.cell? ⟨b, 0, none⟩ = some (.slice (some ⟨pb, po, none⟩) n pc) ∧ w'.cell? ⟨pb, po + (n - 1), none⟩ = some (.iface 97 (.agg #[.int .i64 g.a, .int .i64 g.t, .int .i64 g.m]))) (go_keep) (first | (go_at_call 127; refine (last_ground g.a g.t g.m _).mono ?_; rintro e w2 ⟨rfl, hb2⟩; have c1 := cell_keep hb2 hcell; have c2 := cell_keep hb2 hcv))
    all_goals go_wp2_with fail
    all_goals go_ret2
    all_goals exact ⟨by rw [HTT.out, HT.out]; rfl, below_of_drew hb2⟩
  · rw [hpe] at hpv
    obtain ⟨k1, k2, k3, k4⟩ := hok
    obtain ⟨sv, rfl, cs, hrl, hec⟩ := hpv
    obtain ⟨rb, ro, rc, rfl, -, hrc, -, -, hrcell⟩ := hrl.form k3
    obtain ⟨cv, hc0, hc1, hc2, -⟩ := hec.at 0 k3
    have hterm := hrcell _ _ hc1
    simp only [Nat.zero_mul, Nat.zero_add] at hterm
    have HT := Lib.hid ht
    have HTT := Lib.hid htt
    clear hpe ht htt hc0 hc1 hc2 hrcell hec hrl
    generalize g.parts.length = n at *
    have e1 : IntKind.i64.wrap ((n : Int) - 1) = (n : Int) - 1 := IntWalk.i64_in _ (by omega)
    have e2 : (0 : Int) ≤ (n : Int) - 1 := by omega
    have e3 : (n : Int) - 1 < (n : Int) := by omega
    have e5 : (1 : Int) ≤ (n : Int) := by omega
    have e4 : ((n : Int) - 1).toNat = n - 1 := by omega
    go_enter Try.func19, Try.ntmps19
    go_wp2_with fail
    go_region_held3 (fun w' => w'.cell? ⟨b, 0, none⟩ = some (.slice (some ⟨pb, po, none⟩) n pc) ∧ w'.cell? ⟨pb, po + (n - 1), none⟩ = some (.iface 92 (.agg #[.int .i64 f, .slice (some ⟨rb, ro, none⟩) l.length rc]))) (go_keep) (first | (go_at_call 126; refine (last_run f _ rb ro l.length rc _ (by exact hterm) k3 k4 k1 k2).mono ?_; rintro e w2 ⟨rfl, hb2⟩; have c1 := cell_keep hb2 hcell; have c2 := cell_keep hb2 hcv))
    all_goals go_wp2_with fail
    all_goals go_ret2
    all_goals exact ⟨by rw [HTT.out, HT.out, head_term k3]; rfl, below_of_drew hb2⟩

set_option maxHeartbeats 1000000 in
theorem floor_any {S : Nat → Prop} (p : Value) (g : Lg) (w : World) (h : LogAt S w p g.parts) :
    Calls Try.prog 22 #[p] w fun e w' => e = .returned (.tuple #[.int .i64 g.a, .int .i64 g.t, .int .i64 g.m]) ∧ Below w.heap.size w w' := by
  have Hg := Lib.hid (ground_any p g w h)
  obtain ⟨b, sv, vs, rfl, -, -⟩ := h
  go_enter Try.func22, Try.ntmps22
  go_wp2_with (go_at_call 48; refine Hg.out.mono ?_; rintro e w2 ⟨rfl, hb2⟩)
  go_quiet (fail)
  go_wp2_with fail
  go_ret3
  exact ⟨rfl, below_drewN (hb2.alloc hb2.size _) _⟩

set_option maxHeartbeats 1000000 in
theorem count_any {S : Nat → Prop} (p : Value) (g : Lg) (w : World) (h : LogAt S w p g.parts) (hg : g.Good) :
    Calls Try.prog 43 #[p] w fun e w' => e = .returned (.int .i64 g.ents.length) ∧ Below w.heap.size w w' := by
  have Hf := Lib.hid (floor_any p g w h)
  have Ht := Lib.hid fun w' (hb : Below w.heap.size w w') => top_run p g w' (h.keep hb) hg
  have b1 := hg.a0
  have b2 := hg.a1
  have b3 := hg.len
  have b4 : g.top - g.a = g.ents.length := by unfold Lg.top; omega
  have b5 : g.top ≤ 1099511631872 := by omega
  have b6 : 0 ≤ g.top := by omega
  have H4 := Lib.hid b4
  clear b4 h hg
  go_enter Try.func43, Try.ntmps43
  go_wp2_with (first | (go_at_call 22; refine Hf.out.mono ?_; rintro e w2 ⟨rfl, hb2⟩) | (go_at_call 19; refine (Ht.out _ (by assumption)).mono ?_; rintro e w3 ⟨rfl, hb3⟩))
  go_ret
  exact ⟨by rw [← H4.out]; rfl, below_then hb2 hb3⟩

set_option maxHeartbeats 1000000 in
theorem top_nil (w : World) : Calls Try.prog 19 #[.pointer none] w fun e w' => e = .returned (.tuple #[.int .i64 0, .int .i64 0]) ∧ w = w' := by
  go_enter Try.func19, Try.ntmps19
  go_wp2_with fail
  go_ret2
  exact ⟨rfl, rfl⟩
set_option maxHeartbeats 1000000 in
theorem floor_nil (w : World) : Calls Try.prog 22 #[.pointer none] w fun e w' => e = .returned (.tuple #[.int .i64 0, .int .i64 0, .int .i64 0]) ∧ w = w' := by
  go_enter Try.func22, Try.ntmps22
  go_wp2_with fail
  go_ret3
  exact ⟨rfl, rfl⟩

end Go.Proofs.Ytoaoldhajpbenaa

namespace Go.Proofs.Ytoaoldhajpbenaa
open Go.RowKit
attribute [local go_sem ↓] Go.wp_at_zero Go.wp_at_succ

theorem RowAt.of_blk {S : Nat → Prop} {w : World} {b n sz : Nat} {cs : List Value} {t : TypeId} (h : w.heap[b]? = some (.cells cs.toArray t (0, 0))) (hS : S b) (hl : cs.length = n * sz) (hn : n ≤ maxLen) :
    RowAt S w (.slice (some ⟨b, 0, none⟩) n n) n sz cs :=
  ⟨hl, .inr ⟨b, 0, n, rfl, Nat.le_refl _, hn, hS, (Array.getElem?_eq_some_iff.1 h).1, fun i u hu => by rw [cell_of_row w b (0 + i) _ t (0, 0) h]; simpa using hu⟩⟩

def newB (a t m : Int) : Bool := mayB a && mayB t && maskB m && !(decide (a = 0) && !decide (t = 0))

set_option maxHeartbeats 1000000 in
theorem new_no (a t m : Int) (w : World) (h : newB a t m = false) :
    Calls Try.prog 39 #[.int .i64 a, .int .i64 t, .int .i64 m] w fun e w' => e = .returned (.tuple #[.pointer none, .int .i64 1]) ∧ w = w' := by
  cases h1 : mayB a
  · go_enter Try.func39, Try.ntmps39
    go_wp2_with (first | (go_at_call 81; refine (may_any _ _).mono ?_; rintro e w' ⟨rfl, rfl⟩) | (go_at_call 82; refine (mask_any _ _).mono ?_; rintro e w' ⟨rfl, rfl⟩))
    go_ret2
    exact ⟨rfl, rfl⟩
  cases h2 : mayB t
  · go_enter Try.func39, Try.ntmps39
    go_wp2_with (first | (go_at_call 81; refine (may_any _ _).mono ?_; rintro e w' ⟨rfl, rfl⟩) | (go_at_call 82; refine (mask_any _ _).mono ?_; rintro e w' ⟨rfl, rfl⟩))
    go_ret2
    exact ⟨rfl, rfl⟩
  cases h3 : maskB m
  · go_enter Try.func39, Try.ntmps39
    go_wp2_with (first | (go_at_call 81; refine (may_any _ _).mono ?_; rintro e w' ⟨rfl, rfl⟩) | (go_at_call 82; refine (mask_any _ _).mono ?_; rintro e w' ⟨rfl, rfl⟩))
    go_ret2
    exact ⟨rfl, rfl⟩
  have h4 : a = 0 ∧ t ≠ 0 := by simp [newB, h1, h2, h3] at h; exact h
  obtain ⟨rfl, ht⟩ := h4
  have ht1 : (t == 0) = false := beq_eq_false_iff_ne.2 ht
  have ht2 : (t != 0) = true := by rw [bne_iff_ne]; exact ht
  clear h ht
  go_enter Try.func39, Try.ntmps39
  go_wp2_with (first | (go_at_call 81; refine (may_any _ _).mono ?_; rintro e w' ⟨rfl, rfl⟩) | (go_at_call 82; refine (mask_any _ _).mono ?_; rintro e w' ⟨rfl, rfl⟩))
  go_ret2
  exact ⟨rfl, rfl⟩

theorem new_log (a t m : Int) (w : World) :
    LogAt (w.heap.size ≤ ·) ((w.alloc (.cells #[.iface 97 (.agg #[.int .i64 a, .int .i64 t, .int .i64 m])] 82)).alloc (.cells #[.slice (some ⟨w.heap.size, 0, none⟩) 1 1] 89)) (.pointer (some ⟨w.heap.size + 1, 0, none⟩)) (Lg.mk a t m []).parts := by
  have h1 := blk_new (w.alloc (.cells #[.iface 97 (.agg #[.int .i64 a, .int .i64 t, .int .i64 m])] 82)) (.cells #[.slice (some ⟨w.heap.size, 0, none⟩) 1 1] 89)
  have h2 := blk_alloc (blk_new w (.cells #[.iface 97 (.agg #[.int .i64 a, .int .i64 t, .int .i64 m])] 82)) (.cells #[.slice (some ⟨w.heap.size, 0, none⟩) 1 1] 89)
  rw [World.size_alloc] at h1
  exact ⟨_, _, [_], rfl, Nat.le_succ _, (cells1 h1).1, RowAt.of_blk (cs := [_]) h2 (Nat.le_refl _) rfl (by simp [maxLen]), ⟨_, [], rfl, rfl, rfl⟩⟩
theorem below_two (w : World) (o o' : Obj) : Below w.heap.size w ((w.alloc o).alloc o') := (box_below _ _).alloc (by simp) _

set_option maxHeartbeats 1000000 in
theorem new_yes (a t m : Int) (w : World) (h : newB a t m = true) :
    Calls Try.prog 39 #[.int .i64 a, .int .i64 t, .int .i64 m] w fun e w' => ∃ p, e = .returned (.tuple #[p, .int .i64 0]) ∧ LogAt (w.heap.size ≤ ·) w' p (Lg.mk a t m []).parts ∧ Below w.heap.size w w' := by
  simp [newB] at h
  obtain ⟨⟨⟨h1, h2⟩, h3⟩, h4⟩ := h
  have H4 := Lib.hid h4
  clear h4
  by_cases ha : a = 0
  · have ht : t = 0 := H4.out.resolve_left (fun hn => hn ha)
    subst ha ht
    go_enter Try.func39, Try.ntmps39
    go_wp2_with (first | (go_at_call 81; refine (may_any _ _).mono ?_; rintro e w' ⟨rfl, rfl⟩) | (go_at_call 82; refine (mask_any _ _).mono ?_; rintro e w' ⟨rfl, rfl⟩))
    go_ret2
    exact ⟨_, rfl, new_log _ _ _ _, below_two _ _ _⟩
  · have ha1 : (a == 0) = false := beq_eq_false_iff_ne.2 ha
    clear ha
    go_enter Try.func39, Try.ntmps39
    go_wp2_with (first | (go_at_call 81; refine (may_any _ _).mono ?_; rintro e w' ⟨rfl, rfl⟩) | (go_at_call 82; refine (mask_any _ _).mono ?_; rintro e w' ⟨rfl, rfl⟩))
    go_ret2
    exact ⟨_, rfl, new_log _ _ _ _, below_two _ _ _⟩

/-- Where the run that has a place begins. -/
def runStart (n : Int) : List (Int × List Ent) → Option Int
  | [] => none
  | r :: rs => if (Part.run r.1 r.2).has n then some r.1 else runStart n rs
theorem runStart_none {n : Int} : ∀ {rs : List (Int × List Ent)}, (∀ j (h : j < rs.length), (Part.run rs[j].1 rs[j].2).has n = false) → runStart n rs = none
  | [], _ => rfl
  | r :: rs, h => by
    have h0 := h 0 (by simp)
    simp only [List.getElem_cons_zero] at h0
    simp only [runStart, h0]
    exact runStart_none fun j hj => h (j + 1) (by simpa using hj)
theorem runStart_some {n : Int} : ∀ {rs : List (Int × List Ent)} (i : Nat) (hi : i < rs.length), (∀ j (h : j < rs.length), j < i → (Part.run rs[j].1 rs[j].2).has n = false) → (Part.run rs[i].1 rs[i].2).has n = true → runStart n rs = some rs[i].1
  | [], i, hi, _, _ => by simp at hi
  | r :: rs, 0, _, _, h => by simp only [List.getElem_cons_zero] at h; simp [runStart, h]
  | r :: rs, i + 1, hi, hno, h => by
    have h0 := hno 0 (by simp) (by omega)
    simp only [List.getElem_cons_zero] at h0
    simp only [runStart, h0, List.getElem_cons_succ]
    exact runStart_some i (by simpa using hi) (fun j hj hj' => hno (j + 1) (by simpa using hj) (by omega)) (by simpa using h)
/-- Where to go back to. -/
def Lg.back (g : Lg) (n : Int) : Int :=
  if g.top < n then g.top else match runStart n g.rs with
    | some f => f - 1
    | none => g.a

set_option maxHeartbeats 1000000 in
theorem back_any {S : Nat → Prop} (p : Value) (g : Lg) (n : Int) (w : World) (h : LogAt S w p g.parts) (hg : g.Good) :
    Calls Try.prog 49 #[p, .int .i64 n] w fun e w' => e = .returned (.int .i64 (g.back n)) ∧ Below w.heap.size w w' := by
  have Ht := Lib.hid (top_run p g w h hg)
  have Hf := Lib.hid fun w' (hb : Below w.heap.size w w') => find_lg p g n w' (h.keep hb) hg
  have Hg := Lib.hid fun w' (hb : Below w.heap.size w w') => ground_any p g w' (h.keep hb)
  by_cases hn : g.top < n
  · have Hb := Lib.hid (show g.back n = g.top by simp [Lg.back, hn])
    go_enter Try.func49, Try.ntmps49
    go_wp2_with (go_at_call 19; refine Ht.out.mono ?_; rintro e w1 ⟨rfl, hb1⟩)
    go_ret
    exact ⟨by rw [Hb.out]; rfl, hb1⟩
  · go_enter Try.func49, Try.ntmps49
    go_wp2_with (go_at_call 19; refine Ht.out.mono ?_; rintro e w1 ⟨rfl, hb1⟩)
    refine (Hf.out _ hb1).mono ?_
    rintro e w2 ⟨hp, hb2⟩
    rcases hp with ⟨i, hi, v, hh, hno, hv, rfl⟩ | ⟨hno, rfl⟩
    · rcases hg.part hi hh with ⟨rfl, hna⟩ | ⟨j, hj, rfl, h1, h2, h3, h4, -, he⟩
      · have hs : runStart n g.rs = none := runStart_none fun j hj => by
            obtain ⟨a1, -⟩ := hg.chain.at j hj
            simp [Part.has]; omega
        have Hb := Lib.hid (show g.back n = g.a by simp [Lg.back, hs]; omega)
        clear hs
        rw [g.parts_zero] at hv
        obtain rfl := hv
        clear hno hna
        go_wp2_with (go_at_call 48; refine (Hg.out _ (below_alloc (below_then hb1 hb2) _)).mono ?_; rintro e w3 ⟨rfl, hb3⟩)
        go_ret
        exact ⟨by rw [Hb.out]; rfl, below_then (below_alloc (below_then hb1 hb2) _) hb3⟩
      · have hs : runStart n g.rs = some g.rs[j].1 := runStart_some j hj (fun k hk hkj => hno (k + 1) (by simp [Lg.parts]; omega) (by omega) |> (fun hx => by rwa [g.parts_succ k hk] at hx)) (by rwa [g.parts_succ j hj] at hh)
        have Hb := Lib.hid (show g.back n = g.rs[j].1 - 1 by simp [Lg.back, hs]; omega)
        clear hs
        rw [g.parts_succ j hj] at hv
        obtain ⟨k1, k2, k3, k4⟩ := hg.run_ok j hj
        obtain ⟨sv, rfl, he⟩ := hv
        obtain ⟨A, c, rfl⟩ := he.slice
        clear hno he
        go_wp2_with fail
        go_ret
        exact ⟨by rw [Hb.out]; rfl, below_alloc (below_then hb1 hb2) _⟩
    · have hs : runStart n g.rs = none := runStart_none fun j hj => by
          have := hno (j + 1) (by simp [Lg.parts]; omega) (by simp [Lg.parts]; omega)
          rwa [g.parts_succ j hj] at this
      have Hb := Lib.hid (show g.back n = g.a by simp [Lg.back, hs]; omega)
      clear hs
      clear hno
      go_wp2_with (go_at_call 48; refine (Hg.out _ (below_then hb1 hb2)).mono ?_; rintro e w3 ⟨rfl, hb3⟩)
      go_ret
      exact ⟨by rw [Hb.out]; rfl, below_then (below_then hb1 hb2) hb3⟩
end Go.Proofs.Ytoaoldhajpbenaa

namespace Go.Proofs.Ytoaoldhajpbenaa
open Go.RowKit
attribute [local go_sem ↓] Go.wp_at_zero Go.wp_at_succ

theorem upto_nil (n : Int) (w : World) : Calls Try.prog 24 #[.pointer none, .int .i64 n] w fun e w' => e = .returned (.tuple #[.pointer none, .int .i64 2]) ∧ w = w' := by
  go_enter Try.func24, Try.ntmps24
  go_wp2_with fail
  go_ret2
  exact ⟨rfl, rfl⟩

set_option maxRecDepth 100000 in
set_option maxHeartbeats 1000000 in
theorem upto_none {S : Nat → Prop} (p : Value) (g : Lg) (n : Int) (w : World) (h : LogAt S w p g.parts) (hg : g.Good) (hn : n < g.a ∨ g.top < n) :
    Calls Try.prog 24 #[p, .int .i64 n] w fun e w' => e = .returned (.tuple #[.pointer none, .int .i64 1]) ∧ Below w.heap.size w w' := by
  have Hf := Lib.hid (find_lg p g n w h hg)
  obtain ⟨b, sv, vs, rfl, -, -⟩ := h
  go_enter Try.func24, Try.ntmps24
  go_wp2_with fail
  refine Hf.out.mono ?_
  rintro e w1 ⟨hp, hb⟩
  rcases hp with ⟨i, hi, v, hh, -, -, rfl⟩ | ⟨-, rfl⟩
  · exfalso
    rcases hg.part hi hh with ⟨rfl, rfl⟩ | ⟨j, hj, rfl, h1, h2, -⟩
    · unfold Lg.top at hn; omega
    · omega
  · go_wp2_with fail
    go_ret2
    exact ⟨rfl, hb⟩

set_option maxRecDepth 100000 in
set_option maxHeartbeats 1000000 in
theorem upto_floor {S : Nat → Prop} (p : Value) (g : Lg) (w : World) (h : LogAt S w p g.parts) (hg : g.Good) :
    Calls Try.prog 24 #[p, .int .i64 g.a] w fun e w' => ∃ q, e = .returned (.tuple #[q, .int .i64 0]) ∧ LogAt (w.heap.size ≤ ·) w' q (Lg.mk g.a g.t g.m []).parts ∧ Below w.heap.size w w' := by
  have Hf := Lib.hid (find_lg p g g.a w h hg)
  obtain ⟨b, sv, vs, rfl, -, hcell, hrow, hpc⟩ := h
  obtain ⟨pb, po, pc, rfl, hn, hc, -, hlt, hcells⟩ := hrow.form (by simp [Lg.parts])
  have hle := hg.parts_le
  have hp0 : 0 < g.parts.length := by simp [Lg.parts]
  go_enter Try.func24, Try.ntmps24
  go_wp2_with fail
  refine Hf.out.mono ?_
  rintro e w1 ⟨hp, hb⟩
  have hcell1 := cell_keep hb hcell
  rcases hp with ⟨i, hi, v, hh, -, hv, rfl⟩ | ⟨hno, rfl⟩
  · rcases hg.part hi hh with ⟨rfl, -⟩ | ⟨j, hj, rfl, h1, h2, -⟩
    · rw [g.parts_zero] at hv
      obtain rfl := hv
      have hpc1 := hpc.take 1
      have hl1 : (vs.take 1).length = 1 * 1 := by have := hpc.length; simp; omega
      have hk := fun i u (hu : (vs.take 1)[i]? = some u) => cell_keep hb (hcells i u (by rw [List.getElem?_take] at hu; split at hu <;> simp_all))
      have Hpc := Lib.hid hpc1
      have Hone := Lib.hid hpc1.one
      have Hk := Lib.hid hk
      have Hl := Lib.hid hl1
      have Hc := Lib.hid hc
      have hc1 : 1 ≤ pc := by omega
      unfold maxLen at hc
      have hn2 : (1 : Int) ≤ (pc : Int) := by omega
      clear hk hl1 hpc1 hcells hpc hrow hcell hh hi hn
      go_wp2_with fail
      refine (clone_parts w1 pb po 1 pc (vs.take 1) Hl.out hc1 Hc.out (by omega) Hone.out Hk.out).mono ?_
      rintro e w2 ⟨v, rfl, hown, hb2⟩
      obtain ⟨gb, cap, rfl, hgb, hgl⟩ := hown.form (by omega)
      have Hown := Lib.hid hown
      clear hown
      go_wp2_with fail
      go_ret2
      refine ⟨_, rfl, ?_, below_alloc (below_alloc (below_then hb hb2) _) _⟩
      have h1 := blk_new (w2.alloc (.cells #[.int .i64 0, .slice none 0 0] 92)) (.cells #[.slice (some ⟨gb, 0, none⟩) 1 cap] 89)
      rw [World.size_alloc] at h1
      refine ⟨_, _, vs.take 1, rfl, ?_, (cells1 h1).1, ?_, ?_⟩
      · have := hb2.size; have := hb.size; omega
      · exact ((RowAt.of_own Hown.out).mono (fun b _ h => Nat.le_trans hb.size h)).keep (below_two _ _ _)
      · obtain ⟨v, vs', h1, h2, h3⟩ := Hpc.out
        exact ⟨v, vs', h1, h2, h3⟩
    · omega
  · exfalso
    have := hno 0 (by simp [Lg.parts]) (by simp [Lg.parts])
    rw [g.parts_zero] at this
    simp [Part.has] at this

/-- Up to a place of the j-th run. -/
def Lg.cutAt (g : Lg) (j : Nat) (n : Int) : Lg := { g with rs := g.rs.take j ++ (match g.rs[j]? with | some r => [(r.1, r.2.take (n - r.1 + 1).toNat)] | none => []) }

theorem Lg.parts_take (g : Lg) (j : Nat) : g.parts.take (j + 1) = .ground g.a g.t g.m :: (g.rs.take j).map fun r => .run r.1 r.2 := by simp [Lg.parts]

theorem upto_log {S : Nat → Prop} {w w2 : World} {g : Lg} {j i m cap gb rb ro rc B : Nat} {f : Int} {l : List Ent} {cs vs : List Value} (hij : i = j + 1) (hm : i + 1 = m) (hlen : i ≤ (vs.take (i + 1)).length)
    (hpc : PartCells S w (g.parts.take (i + 1)) (vs.take (i + 1))) (hown : w2.ownsRow B 82 1 (.slice (some ⟨gb, 0, none⟩) (i + 1) cap) (i + 1) (vs.take (i + 1))) (hB : w.heap.size ≤ B) (hgb : B ≤ gb)
    (hrl : RowAt S w (.slice (some ⟨rb, ro, none⟩) l.length rc) l.length 3 cs) (hec : EntCells S w l cs) (hb : Below w.heap.size w w2) (k : Nat) (hk : k ≤ l.length) (X : Obj) :
    LogAt (fun b => S b ∨ w.heap.size ≤ b) ((((w2.setCell ⟨gb, i, none⟩ (.iface 92 (.agg #[.int .i64 f, .slice (some ⟨rb, ro, none⟩) k k]))).alloc X).alloc (.cells #[.slice (some ⟨gb, 0, none⟩) m cap] 89)).drew)
      (.pointer (some ⟨w2.heap.size + 1, 0, none⟩)) (Lg.mk g.a g.t g.m (g.rs.take j ++ [(f, l.take k)])).parts := by
  have hle := hrl.le
  have hbf : Below w.heap.size w ((((w2.setCell ⟨gb, i, none⟩ (.iface 92 (.agg #[.int .i64 f, .slice (some ⟨rb, ro, none⟩) k k]))).alloc X).alloc (.cells #[.slice (some ⟨gb, 0, none⟩) m cap] 89)).drew) :=
    (below_alloc (below_alloc (hb.setCell (p := ⟨gb, i, none⟩) (by simp; omega) _) _) _).drew
  have h1 := blk_new ((w2.setCell ⟨gb, i, none⟩ (.iface 92 (.agg #[.int .i64 f, .slice (some ⟨rb, ro, none⟩) k k]))).alloc X) (.cells #[.slice (some ⟨gb, 0, none⟩) m cap] 89)
  rw [World.size_alloc, size_setCell] at h1
  have hst := (hown.stored (g := gb) i (.iface 92 (.agg #[.int .i64 f, .slice (some ⟨rb, ro, none⟩) k k]))).1
  subst hm
  refine ⟨_, _, (vs.take (i + 1)).set i (.iface 92 (.agg #[.int .i64 f, .slice (some ⟨rb, ro, none⟩) k k])), rfl, .inr ?_, (cells1 h1).1, ?_, ?_⟩
  · have := hb.size; omega
  · have hl : (Lg.mk g.a g.t g.m (g.rs.take j ++ [(f, l.take k)])).parts.length = i + 1 := by
      have h1 := hpc.length
      have h2 := hown.1
      rw [Lg.parts_length]
      have h3 : (g.parts.take (i + 1)).length = i + 1 := by omega
      simp [Lg.parts] at h3
      simp; omega
    rw [hl]
    exact ((((RowAt.of_own hst).mono (T := fun b => S b ∨ w.heap.size ≤ b) (fun b _ h => .inr (Nat.le_trans hB h))).keep (below_two _ _ _)).keep ((Below.refl _ _).drew))
  · have hset : (vs.take (i + 1)).set i (.iface 92 (.agg #[.int .i64 f, .slice (some ⟨rb, ro, none⟩) k k])) = (vs.take (i + 1)).take i ++ [.iface 92 (.agg #[.int .i64 f, .slice (some ⟨rb, ro, none⟩) k k])] := by
      have h2 := hown.1
      rw [List.set_eq_take_append_cons_drop, if_pos (by omega)]
      congr 1
      rw [List.drop_of_length_le (by omega)]
    rw [hset]
    have hp : (Lg.mk g.a g.t g.m (g.rs.take j ++ [(f, l.take k)])).parts = (g.parts.take (i + 1)).take i ++ [.run f (l.take k)] := by
      subst hij
      rw [List.take_take, Nat.min_eq_left (by omega), g.parts_take]
      simp [Lg.parts]
    rw [hp]
    refine ((hpc.take i).keepS (Same.of_below' hbf S)).mono (fun _ _ h => .inl h) |>.append ⟨_, [], rfl, ⟨_, rfl, ?_⟩, rfl⟩
    refine ⟨(cs.drop (0 * 3)).take (k * 3), ?_, ?_⟩
    · have := ((hrl.cut 0 k k (by omega) (Nat.le_refl _) (by omega)).keep hbf).mono (T := fun b => S b ∨ w.heap.size ≤ b) (fun _ _ h => .inl h)
      have hkl : (l.take k).length = k := by simp; omega
      rw [hkl]
      simpa using this
    · simpa using ((hec.take k).keepS (Same.of_below' hbf S)).mono (T := fun b => S b ∨ w.heap.size ≤ b) (fun _ _ h => .inl h)

set_option maxRecDepth 100000 in
set_option maxHeartbeats 2000000 in
theorem upto_run {S : Nat → Prop} (p : Value) (g : Lg) (n : Int) (w : World) (h : LogAt S w p g.parts) (hg : g.Good) (hn1 : g.a < n) (hn2 : n ≤ g.top) :
    Calls Try.prog 24 #[p, .int .i64 n] w fun e w' => ∃ q j, ∃ hj : j < g.rs.length, g.rs[j].1 ≤ n ∧ n ≤ g.rs[j].1 + g.rs[j].2.length - 1 ∧ e = .returned (.tuple #[q, .int .i64 0]) ∧
      LogAt (fun b => S b ∨ w.heap.size ≤ b) w' q (g.cutAt j n).parts ∧ Below w.heap.size w w' := by
  have Hf := Lib.hid (find_lg p g n w h hg)
  obtain ⟨b, sv, vs, rfl, -, hcell, hrow, hpc⟩ := h
  obtain ⟨pb, po, pc, rfl, hn, hc, -, hlt, hcells⟩ := hrow.form (by simp [Lg.parts])
  have hle := hg.parts_le
  have hp0 : 0 < g.parts.length := by simp [Lg.parts]
  go_enter Try.func24, Try.ntmps24
  go_wp2_with fail
  refine Hf.out.mono ?_
  rintro e w1 ⟨hp, hb⟩
  have hcell1 := cell_keep hb hcell
  rcases hp with ⟨i, hi, v, hh, -, hv, rfl⟩ | ⟨hno, rfl⟩
  · rcases hg.part hi hh with ⟨rfl, rfl⟩ | ⟨j, hj, hij, h1, h2, h3, h4, -⟩
    · omega
    · replace hv : PartV S w v (.run g.rs[j].1 g.rs[j].2) := by subst hij; rwa [g.parts_succ j hj] at hv
      have Hij := Lib.hid hij
      have hil : i ≤ 4096 := by have := g.parts_length; omega
      have Hr0 := Lib.hid (hg.run_ok j hj)
      obtain ⟨k1, k2, k3, k4⟩ := hg.run_ok j hj
      have Hv := Lib.hid hv
      obtain ⟨sl, rfl, cs, hrl, hec⟩ := hv
      obtain ⟨rb, ro, rc, rfl, hrn, hrc, -, hrb, hrcell⟩ := hrl.form k3
      have hpc1 := hpc.take (i + 1)
      have hl1 : (vs.take (i + 1)).length = (i + 1) * 1 := by have := hpc.length; simp; omega
      have hk := fun k u (hu : (vs.take (i + 1))[k]? = some u) => cell_keep hb (hcells k u (by rw [List.getElem?_take] at hu; split at hu <;> simp_all))
      have Hpc := Lib.hid hpc1
      have Hone := Lib.hid hpc1.one
      have Hk := Lib.hid hk
      have Hl := Lib.hid hl1
      have Hc := Lib.hid hc
      have Hrl := Lib.hid hrl
      have Hec := Lib.hid hec
      have Hrn := Lib.hid hrn
      have Hrc := Lib.hid hrc
      have hc1 : i + 1 ≤ pc := by omega
      unfold maxLen at hc hrc
      have e1 : (i : Int) + 1 ≤ (pc : Int) := by omega
      clear hij hk hl1 hpc1 hcells hpc hrow hcell hh hi hn hrcell hec hrl hrn
      go_wp2_with fail
      refine (clone_parts w1 pb po (i + 1) pc (vs.take (i + 1)) Hl.out hc1 Hc.out (by omega) Hone.out Hk.out).mono ?_
      rintro e w2 ⟨v, rfl, hown, hb2⟩
      obtain ⟨gb, cap, rfl, hgb, hgl⟩ := hown.form (by omega)
      have hcj := hown.cells (g := gb) rfl i ((vs.take (i + 1))[i]'(by have := Hl.out; omega)) (by simp)
      have hfj := hown.frozenAt (g := gb) i
      rw [add_plain, Nat.zero_add] at hcj
      have Hown := Lib.hid hown
      have Hx := Lib.hid (show (g.rs[j]'hj) = (g.rs[j].1, g.rs[j].2) from rfl)
      clear hown
      generalize g.rs[j].1 = f at *
      generalize g.rs[j].2 = l at *
      generalize (vs.take (i + 1))[i]'_ = old at *
      have i1 : (0 : Int) ≤ n - f := by omega
      have i2 : n - f + 1 ≤ (rc : Int) := by have := Hrn.out; omega
      have i3 : (0 : Int) ≤ n - f + 1 := by omega
      have q1 : IntKind.i64.wrap (n - f) = n - f := IntWalk.i64_in _ (by omega)
      have q2 : IntKind.i64.wrap (n - f + 1) = n - f + 1 := IntWalk.i64_in _ (by omega)
      have i4 : (0 : Int) ≤ (i : Int) := by omega
      obtain ⟨m, hm⟩ : ∃ m, i + 1 = m := ⟨_, rfl⟩
      have i5 : (i : Int) < (m : Int) := by omega
      have Hm := Lib.hid hm
      rw [hm]
      clear hm
      have hne1 := World.new_ne w2 _ hcj
      go_wp2_with fail
      go_region_held3 (fun w' => w'.cell? ⟨w2.heap.size, 0, none⟩ = some (.int .i64 f) ∧ w'.cell? ⟨w2.heap.size, 1, none⟩ = some (.slice (some ⟨rb, ro, none⟩) l.length rc)) (first | exact ⟨cell_set_alloc _ _ _ _ _ _ _ rfl, cell_set_alloc _ _ _ _ _ _ _ rfl⟩ | go_keep) (fail)
      go_wp2_with fail
      go_ret2
      have hbf : Below w.heap.size w ((((w2.setCell ⟨gb, i, none⟩ (.iface 92 (.agg #[.int .i64 f, .slice (some ⟨rb, ro, none⟩) (n - f + 1).toNat (n - f + 1).toNat]))).alloc (.cells #[.int .i64 f, .slice (some ⟨rb, ro, none⟩) l.length rc] 92)).alloc (.cells #[.slice (some ⟨gb, 0, none⟩) m cap] 89)).drew) :=
        (below_alloc (below_alloc ((below_then hb hb2).setCell (p := ⟨gb, i, none⟩) (by have := hb.size; simp; omega) _) _) _).drew
      refine ⟨_, j, hj, by rw [Hx.out]; exact h3, by rw [Hx.out]; exact h4, rfl, ?_, hbf⟩
      have hcut : g.cutAt j n = Lg.mk g.a g.t g.m (g.rs.take j ++ [(f, l.take (n - f + 1).toNat)]) := by
        unfold Lg.cutAt; rw [List.getElem?_eq_getElem hj, Hx.out]
      rw [hcut]
      exact upto_log Hij.out Hm.out (by have := Hl.out; omega) Hpc.out Hown.out hb.size hgb Hrl.out Hec.out (below_then hb hb2) _ (by omega) _
  · exfalso
    have := hg.noPart fun j hj => hno j hj hj
    omega
end Go.Proofs.Ytoaoldhajpbenaa
