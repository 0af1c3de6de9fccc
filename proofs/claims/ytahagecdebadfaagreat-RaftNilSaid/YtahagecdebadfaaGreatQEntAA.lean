/- Texts that belong together, in one file: EntV, EntT, RgL, RfA, RfB, RhA, RfC, EntBa, EntAA. No statement is proved here. -/
import Derived.Test.YtahagecdebadfaaGreatQEntU
import Derived.Deep.DeepCutAuto
import Derived.Deep.CutBlock
import Derived.Deep.RegionHeld3
import Derived.Test.YtahagecdebadfaaGreatProg
import Derived.Test.YtahagecdebadfaaGreatQFldF
import Derived.Test.YtahagecdebadfaaGreatChecked
import Derived.IntWalk
import Derived.Laws.BitsLemmas
import Derived.Test.YtahagecdebadfaaGreatQEntM
import Derived.Deep.RegionLawGrows
import Derived.Deep.RegionWith
import Derived.Deep.DrawnRows
import Derived.RangeFuncNested
import Derived.RangeFuncBound
import Derived.RangeFuncCalls
import Derived.RangeFuncLeaves
import Derived.RangeFuncBox
import Derived.Shelf.Abstract
import Derived.Shelf.RegionOpen
import Derived.Sort.QuietIn
import Derived.OwnWalkIn
import Derived.TacticsInMore
import Derived.LoopNIn
import Derived.LoopIn
namespace Go.Proofs.YtahagecdebadfaaGreat

theorem Chain.rise {p t : Int} : ∀ {rs : List (Int × List Ent)}, Chain p t rs → ∀ j (h : j + 1 < rs.length), headTerm rs[j].2 < headTerm rs[j + 1].2
  | [], _, j, h => by simp at h
  | [r], _, j, h => by simp at h
  | r :: q :: rs, ⟨_, _, _, _, h5⟩, 0, _ => by
    obtain ⟨_, _, _, h4, _⟩ := h5
    show headTerm r.2 < headTerm q.2
    omega
  | r :: q :: rs, ⟨_, _, _, _, h5⟩, j + 1, h => Chain.rise h5 j (by simpa using h)

theorem Lg.Good.next {g : Lg} (h : g.Good) (j : Nat) (hj : j + 1 < g.rs.length) : g.rs[j + 1].1 = g.rs[j].1 + g.rs[j].2.length := by
  have h1 := (h.chain.at j (by omega)).1
  have h2 := (h.chain.at (j + 1) hj).1
  rw [List.take_succ_eq_append_getElem (by omega), allOf_append] at h2
  simp [allOf] at h1 h2
  omega
theorem Lg.Good.fin {g : Lg} (h : g.Good) (j : Nat) (hj : j + 1 = g.rs.length) : g.rs[j].1 + g.rs[j].2.length = g.a + 1 + g.ents.length := by
  have h1 := (h.chain.at j (by omega)).1
  have h2 := take_at g.rs j (by omega)
  have h3 : g.rs.drop (j + 1) = [] := List.drop_eq_nil_of_le (by omega)
  rw [h3] at h2
  unfold Lg.ents
  rw [h2]
  simp [allOf] at h1 ⊢
  omega
theorem Lg.Good.first {g : Lg} (h : g.Good) (hr : 0 < g.rs.length) : g.rs[0].1 = g.a + 1 := by
  have := (h.chain.at 0 hr).1
  simpa [allOf] using this
theorem Lg.Good.runs_pos {g : Lg} (_h : g.Good) (hl : 0 < g.ents.length) : 0 < g.rs.length := by
  rcases Nat.eq_zero_or_pos g.rs.length with h0 | h0
  · have : g.rs = [] := List.eq_nil_of_length_eq_zero h0
    unfold Lg.ents at hl; rw [this] at hl; simp [allOf] at hl
  · exact h0

/-- Run k holds place a + i; ahead of the first place: the first run. -/
def Kin (g : Lg) (i k : Nat) : Prop := ∃ h : k < g.rs.length, (i = 0 → k = 0) ∧ (0 < i → g.rs[k].1 ≤ g.a + i ∧ g.a + i ≤ g.rs[k].1 + g.rs[k].2.length - 1)
theorem Lg.Good.kin_up {g : Lg} (h : g.Good) {i k : Nat} (_hk : Kin g i k) (h1 : k + 1 < g.rs.length) (h2 : g.rs[k + 1].1 = g.a + i + 1) :
    Kin g (i + 1) (k + 1) ∧ headTerm g.rs[k].2 < headTerm g.rs[k + 1].2 := by
  refine ⟨⟨h1, by simp, fun _ => ?_⟩, h.chain.rise k h1⟩
  obtain ⟨k3, -⟩ := (h.run_ok (k + 1) h1).2.2
  have : 0 < g.rs[k + 1].2.length := k3
  constructor <;> omega
theorem Lg.Good.kin_on {g : Lg} (h : g.Good) {i k : Nat} (hi : i < g.ents.length) (hk : Kin g i k) (h2 : ¬ ∃ h1 : k + 1 < g.rs.length, g.rs[k + 1].1 = g.a + i + 1) : Kin g (i + 1) k := by
  obtain ⟨hk, h0, h3⟩ := hk
  refine ⟨hk, by simp, fun _ => ?_⟩
  obtain ⟨-, -, k3, -⟩ := h.run_ok k hk
  have k3 : 0 < g.rs[k].2.length := k3
  rcases Nat.eq_zero_or_pos i with rfl | hp
  · obtain rfl := h0 rfl
    have := h.first hk
    constructor <;> omega
  · obtain ⟨h4, h5⟩ := h3 hp
    refine ⟨by omega, ?_⟩
    by_cases hn : k + 1 < g.rs.length
    · have := h.next k hn
      have hne : ¬ g.rs[k + 1].1 = g.a + i + 1 := fun e => h2 ⟨hn, e⟩
      omega
    · have := h.fin k (by omega)
      omega
theorem Lg.Good.kin_term {g : Lg} (h : g.Good) {i k : Nat} (hi : i < g.ents.length) (hk : Kin g (i + 1) k) : g.termAt (g.a + i + 1) = headTerm (g.rs[k]'hk.1).2 ∧ g.termAt (g.a + i + 1) = g.ents[i].term := by
  obtain ⟨hk, -, h3⟩ := hk
  obtain ⟨h4, h5⟩ := h3 (by omega)
  have e : g.termAt (g.a + i + 1) = g.ents[i].term := by
    unfold Lg.termAt
    rw [if_neg (by omega), if_pos (by unfold Lg.top; omega)]
    have : (g.a + (i : Int) + 1 - g.a - 1).toNat = i := by omega
    rw [this, List.getElem?_eq_getElem hi]; rfl
  refine ⟨?_, e⟩
  rw [e]
  obtain ⟨a1, a2, a3, a4⟩ := h.chain.at k hk
  have hx := take_at g.rs k hk
  have hi' : i = (allOf (g.rs.take k)).length + (i - (allOf (g.rs.take k)).length) := by omega
  have hlt : i - (allOf (g.rs.take k)).length < g.rs[k].2.length := by omega
  have : g.ents[i] = g.rs[k].2[i - (allOf (g.rs.take k)).length] := by
    unfold Lg.ents
    simp only [hx]
    rw [List.getElem_append_right (by omega), List.getElem_append_left hlt]
  rw [this]
  exact (a3 _ (List.getElem_mem hlt)).1
theorem Lg.Good.kin_end {g : Lg} (h : g.Good) {k : Nat} (hl : 0 < g.ents.length) (hk : Kin g g.ents.length k) : k + 1 = g.rs.length := by
  obtain ⟨hk, -, h3⟩ := hk
  obtain ⟨h4, h5⟩ := h3 hl
  rcases Nat.lt_or_ge (k + 1) g.rs.length with hn | hn
  · exfalso
    obtain ⟨a1, a2, a3, a4⟩ := h.chain.at (k + 1) hn
    have h6 := h.next k hn
    have h7 := len_le_at g.rs (k + 1) hn
    have : 0 < g.rs[k + 1].2.length := List.length_pos_iff.2 a2
    have e : g.ents.length = (allOf g.rs).length := rfl
    omega
  · omega

theorem runCells_at : ∀ (l : List (Int × Int)) (j : Nat) (h : j < l.length), (runCells l)[j * 2]? = some (.int .i64 l[j].1) ∧ (runCells l)[j * 2 + 1]? = some (.int .i64 l[j].2)
  | [], j, h => by simp at h
  | x :: l, 0, _ => by simp [runCells]
  | x :: l, j + 1, h => by
    have := runCells_at l j (by simpa using h)
    have e1 : (j + 1) * 2 = j * 2 + 1 + 1 := by omega
    have e2 : runCells (x :: l) = .int .i64 x.1 :: .int .i64 x.2 :: runCells l := rfl
    rw [e1, e2]
    simpa using this
end Go.Proofs.YtahagecdebadfaaGreat

namespace Go.Proofs.YtahagecdebadfaaGreat
open Go.RowKit
attribute [local go_sem ↓] Go.wp_at_zero Go.wp_at_succ

/-- Entries from a place on, so many. -/
def Lg.slice (g : Lg) (from_ most : Int) : List Ent := if g.a < from_ ∧ from_ ≤ g.top then (g.ents.drop (from_ - g.a - 1).toNat).take most.toNat else []

/-- What the loop has gathered: entries in memory of its own, each with bytes of its own. -/
def Gathered (B : Nat) (wr : World) (o : Value) (es : List Ent) : Prop :=
  ∃ cs, wr.ownsRow B 113 3 o es.length cs ∧ EntCells (fun b => B ≤ b ∧ some b ≠ o.ownBlock) wr es cs
theorem Gathered.keep {B : Nat} {w w' : World} {o : Value} {es : List Ent} (h : Gathered B w o es) (hb : Below w.heap.size w w') : Gathered B w' o es := by
  obtain ⟨cs, h1, h2⟩ := h
  exact ⟨cs, own_keep h1 hb, h2.keepS (Same.of_below' hb _)⟩
theorem Gathered.ents {B : Nat} {w : World} {o : Value} {es : List Ent} (h : Gathered B w o es) : Ents (B ≤ ·) w o es := by
  obtain ⟨cs, h1, h2⟩ := h
  exact ⟨cs, RowAt.of_own h1, h2.mono fun b _ h => h.1⟩
theorem Gathered.nil (B : Nat) (w : World) : Gathered B w (.slice none 0 0) [] := ⟨[], World.ownsRow_nil _ _ _ _, rfl⟩

/-- One more: bytes copied in W, then the append. -/
theorem Gathered.push {B n : Nat} {wr W w6 : World} {o v6 : Value} {es : List Ent} {cs : List Value} {e : Ent} {ov : Value} {tmp : Obj}
    (h1 : wr.ownsRow B 113 3 o n cs) (hn : n = es.length) (h2 : EntCells (fun b => B ≤ b ∧ some b ≠ o.ownBlock) wr es cs) (hB : B ≤ wr.heap.size)
    (hW : Below wr.heap.size wr W) (hk : in64 e.kind) (ht : in64 e.term) (hov : Bytes (wr.heap.size ≤ ·) W ov e.cmd)
    (hown : w6.ownsRow B 113 3 v6 (n + 1) (cs ++ [.int .i64 e.kind, .int .i64 e.term, ov])) (hg : (W.alloc tmp).grownBy w6 o.ownBlock)
    (hat : v6.ownBlock = o.ownBlock ∨ v6.ownBlock = some (W.heap.size + 1)) :
    Gathered B w6 v6 (es ++ [e]) := by
  have hWs := hW.size
  have hob : ∀ b, some b = o.ownBlock → b < wr.heap.size := by
    intro b hb
    rcases h1.2 with ⟨rfl, _⟩ | ⟨g, cap, cur, rfl, _, hgb, _⟩
    · simp [Value.ownBlock] at hb
    · obtain rfl : b = g := by simpa [Value.ownBlock] using hb
      exact (Array.getElem?_eq_some_iff.1 hgb).1
  have hsame : Same (fun b => some b ≠ o.ownBlock ∧ b < W.heap.size) W w6 := by
    refine ⟨by have := hg.size; simp at this; omega, fun b hs hb => ?_⟩
    have := hg.block b (by simp; omega) (fun e => hs.1 e)
    rw [this]
    exact Below.heap_alloc W tmp b hb
  refine ⟨_, by rw [List.length_append, ← hn]; exact hown, EntCells.append ?_ ⟨ov, [], rfl, hk, ht, ?_, rfl⟩⟩
  · have a1 := EntCells.mono (T := fun b => B ≤ b ∧ some b ≠ o.ownBlock ∧ b < wr.heap.size) (fun b hb hs => ⟨hs.1, hs.2, hb⟩) h2
    have a2 := a1.keepS (Same.of_below' hW _)
    have a3 := a2.keepS (w' := w6) (hsame.mono fun b hs => ⟨hs.2.1, by have := hs.2.2; omega⟩)
    refine a3.mono fun b hb hs => ⟨hs.1, ?_⟩
    rcases hat with e | e
    · rw [e]; exact hs.2.1
    · rw [e]; intro h; simp at h; have := hs.2.2; omega
  · have a1 := RowAt.mono (T := fun b => wr.heap.size ≤ b ∧ b < W.heap.size) hov (fun b hb hs => ⟨hs, hb⟩)
    have a2 := RowAt.keepS (w' := w6) a1 (hsame.mono fun b hs => ⟨fun h => by have := hob b h; omega, hs.2⟩)
    refine RowAt.mono a2 fun b hb hs => ⟨by omega, ?_⟩
    rcases hat with e | e
    · rw [e]; intro h; have := hob b h; omega
    · rw [e]; intro h; simp at h; omega

theorem take_push {α : Type} (d m : Nat) (P : List α) (e : α) :
    ((P ++ [e]).drop d).take m = if d ≤ P.length ∧ ((P.drop d).take m).length < m then (P.drop d).take m ++ [e] else (P.drop d).take m := by
  by_cases hd : d ≤ P.length
  · rw [List.drop_append_of_le_length hd]
    by_cases hm : (P.drop d).length < m
    · rw [if_pos ⟨hd, by simp at hm ⊢; omega⟩, List.take_of_length_le (by simp at hm ⊢; omega), List.take_of_length_le (Nat.le_of_lt hm)]
    · rw [if_neg (by simp at hm ⊢; omega), List.take_append_of_le_length (by omega)]
  · rw [if_neg (by omega), List.drop_eq_nil_of_le (by simp; omega), List.drop_eq_nil_of_le (by omega)]

theorem Lg.Good.seq {g : Lg} (h : g.Good) (j : Nat) : ∀ q, j + q < g.rs.length → (g.rs[j + q]?.map (·.1)).getD 0 = (g.rs[j]?.map (·.1)).getD 0 + (allOf ((g.rs.drop j).take q)).length
  | 0, hq => by simp [allOf]
  | q + 1, hq => by
    have ih := Lg.Good.seq h j q (by omega)
    have hn := h.next (j + q) (by omega)
    rw [List.getElem?_eq_getElem (by omega)] at ih ⊢
    have e1 : (g.rs.drop j).take (q + 1) = (g.rs.drop j).take q ++ [g.rs[j + q]] := by
      rw [List.take_succ_eq_append_getElem (by simp; omega)]
      simp
    rw [e1, allOf_append]
    have e2 : g.rs[j + (q + 1)].1 = g.rs[j + q + 1].1 := rfl
    simp [allOf] at ih ⊢
    rw [e2, hn]
    omega

theorem Lg.Good.slice_at {g : Lg} (h : g.Good) {n m : Int} {j : Nat} (hj : j < g.rs.length) (h1 : g.a < n) (h2 : n ≤ g.top) (h3 : g.rs[j].1 ≤ n) :
    g.slice n m = ((allOf (g.rs.drop j)).drop (n - g.rs[j].1).toNat).take m.toNat := by
  unfold Lg.slice
  rw [if_pos ⟨h1, h2⟩]
  have e : g.ents = allOf (g.rs.take j) ++ allOf (g.rs.drop j) := by
    rw [← allOf_append, List.take_append_drop]; rfl
  have hp := (h.chain.at j hj).1
  have e2 : (n - g.a - 1).toNat = (allOf (g.rs.take j)).length + (n - g.rs[j].1).toNat := by omega
  rw [e, e2, List.drop_append, List.drop_eq_nil_of_le (by omega), Nat.add_sub_cancel_left, List.nil_append]

set_option maxRecDepth 100000 in
set_option maxHeartbeats 1000000 in
theorem slice_any {S : Nat → Prop} (p : Value) (g : Lg) (from_ most : Int) (w : World) (h : LogAt S w p g.parts) (hg : g.Good) :
    Calls Tryz.prog 96 #[p, .int .i64 from_, .int .i64 most] w fun e w' => ∃ lv, e = .returned lv ∧ Ents (w.heap.size ≤ ·) w' lv (g.slice from_ most) ∧ Below w.heap.size w w' := by
  have Hf := Lib.hid (find_lg p g from_ w h hg)
  obtain ⟨b, sv, vs, rfl, -, hcell, hrow, hpc⟩ := h
  obtain ⟨pb, po, pc, rfl, hn, hc, -, hlt, hcells⟩ := hrow.form (by simp [Lg.parts])
  have HP := Lib.hid hpc
  have HC := Lib.hid hcells
  have Hn := Lib.hid hn
  have hple := hg.parts_le
  have hplen := g.parts_length
  have hents : ∀ lv w', lv = .slice none 0 0 → g.slice from_ most = [] → Ents (w.heap.size ≤ ·) w' lv (g.slice from_ most) := by
    rintro _ w' rfl h2
    rw [h2]; exact ⟨[], ⟨rfl, .inl ⟨rfl, .inl rfl⟩⟩, rfl⟩
  have HE := Lib.hid hents
  have Hplen := Lib.hid hplen
  unfold maxLen at hc
  clear hpc hcells hn hrow hents hplen
  go_enter Tryz.func96, Tryz.ntmps96
  go_wp2_with fail
  refine Hf.out.mono ?_
  rintro e w1 ⟨hp, hb⟩
  have hcell1 := cell_keep hb hcell
  rcases hp with ⟨i, hi, v, hh, -, hv, rfl⟩ | ⟨hno, rfl⟩
  · rcases hg.part hi hh with ⟨rfl, rfl⟩ | ⟨j, hj, hij, h1, h2, h3, h4, -⟩
    · rw [g.parts_zero] at hv
      obtain rfl := hv
      go_wp2_with fail
      go_ret
      exact ⟨_, rfl, HE.out _ _ rfl (by simp [Lg.slice]), below_alloc hb _⟩
    · replace hv : PartV S w v (.run g.rs[j].1 g.rs[j].2) := by subst hij; rwa [g.parts_succ j hj] at hv
      obtain ⟨sl, rfl, cs, hrl, hec⟩ := hv
      obtain ⟨rb, ro, rc, rfl, -⟩ := hrl.form (hg.run_ok j hj).2.2.1
      have i1 : (i : Int) ≤ (g.parts.length : Int) := by omega
      have i2 : i ≤ g.parts.length := by omega
      have i3 : (g.parts.length : Int) ≤ (pc : Int) := by have := Hn.out; omega
      have Hij := Lib.hid hij
      have hcell2 := fun o' => cell_keep (box_below w1 o') hcell1
      obtain ⟨R, hR⟩ : ∃ R, g.parts.length - i = R := ⟨_, rfl⟩
      clear hrl hec hh hij
      go_wp2_with fail
      obtain ⟨d, hd⟩ : ∃ d, (from_ - g.rs[j].1).toNat = d := ⟨_, rfl⟩
      have Hd := Lib.hid hd
      have HR := Lib.hid hR
      clear hd hR
      go_loopw [11, 38] (fun o i wr => ∃ (q : Nat) (A : Option Addr) (c : Nat) (es : List Ent), q ≤ R ∧ i = .int .i64 q ∧ es = ((allOf ((g.rs.drop j).take q)).drop d).take most.toNat ∧ o = .slice A es.length c ∧ Gathered w.heap.size wr o es ∧ Below w.heap.size w wr) (fun _ i _ => R - (intOf i).toNat)
      case atStart => exact ⟨0, none, 0, [], by omega, rfl, by simp [allOf], rfl, Gathered.nil _ _, below_alloc hb _⟩
      case round =>
        obtain ⟨q, A, c, es, hq, rfl, hes, rfl, hG, hbr⟩ := hrel
        have Hes := Lib.hid hes
        have HG := Lib.hid hG
        clear hes hG
        by_cases hqR : q < R
        · have hjq : j + q < g.rs.length := by have := HR.out; have := Hij.out; have := Hplen.out; omega
          have hiq : i + q < g.parts.length := by have := HR.out; omega
          obtain ⟨v', hv', hpv'⟩ := HP.out.at (i + q) hiq
          have hcv : wr.cell? ⟨pb, po + i + q, none⟩ = some v' := by
            rw [Nat.add_assoc]; exact cell_keep hbr (HC.out _ _ hv')
          have epq : g.parts[i + q]'hiq = .run g.rs[j + q].1 g.rs[j + q].2 := by
            have e : i + q = j + q + 1 := by have := Hij.out; omega
            simp only [e]
            exact g.parts_succ (j + q) hjq
          rw [epq] at hpv'
          obtain ⟨sl', rfl, cs', hrl', hec'⟩ := hpv'
          have hrun := hg.run_ok (j + q) hjq
          obtain ⟨rb', ro', rc', rfl, hrn', hrc', -, hrb', hrcell'⟩ := hrl'.form hrun.2.2.1
          have hqR2 : (q : Int) < (R : Int) := by omega
          have hseq := hg.seq j q hjq
          rw [List.getElem?_eq_getElem hjq, List.getElem?_eq_getElem hj] at hseq
          have Hseq := Lib.hid (show g.rs[j + q].1 = g.rs[j].1 + (allOf ((g.rs.drop j).take q)).length from by simpa using hseq)
          have Htk := Lib.hid (show (g.rs.drop j).take (q + 1) = (g.rs.drop j).take q ++ [(g.rs[j + q].1, g.rs[j + q].2)] from by
            rw [List.take_succ_eq_append_getElem (by simp; omega)]; simp)
          have hcmd : ∀ e ∈ g.rs[j + q].2, e.cmd.length ≤ 4080 := fun e he => by
            have := ((hg.chain.at (j + q) hjq).2.2.1 e he).2
            simp [rightB] at this; omega
          have Hcmd := Lib.hid hcmd
          have Hsum := Lib.hid (show (allOf ((g.rs.drop j).take q)).length + g.rs[j + q].2.length ≤ 4096 from by
            have h1 := len_le_at g.rs (j + q) hjq
            have h2 := hg.len
            have h3 : g.ents.length = (allOf g.rs).length := rfl
            rw [List.take_add, allOf_append, List.length_append] at h1
            omega)
          obtain ⟨r1, r2, r3, r4⟩ := hrun
          have Hrc' := Lib.hid hrcell'
          have Hec' := Lib.hid hec'
          have Hrn' := Lib.hid hrn'
          clear hcmd hv' hrl' hrcell' hec' hseq epq hrn'
          generalize g.rs[j + q].1 = f at *
          generalize g.rs[j + q].2 = L at *
          go_wp2_with fail
          have hown0 : some wr.heap.size ≠ (Value.slice A es.length c).ownBlock := by
            obtain ⟨cs0, o1, -⟩ := HG.out
            rcases o1.2 with ⟨e0, _⟩ | ⟨g0, cap0, cur0, e0, _, hgb, _⟩
            · rw [e0]; simp [Value.ownBlock]
            · rw [e0]
              have := (Array.getElem?_eq_some_iff.1 hgb).1
              simp [Value.ownBlock]; omega
          go_loopw [11, 50] (fun o2 i2 wi => ∃ (k : Nat) (A2 : Option Addr) (c2 : Nat) (es2 : List Ent), k ≤ L.length ∧ i2 = .int .i64 k ∧ es2 = ((allOf ((g.rs.drop j).take q) ++ L.take k).drop d).take most.toNat ∧ o2 = .slice A2 es2.length c2 ∧ Gathered w.heap.size wi o2 es2 ∧
            wi.cell? ⟨wr.heap.size, 0, none⟩ = some (.int .i64 f) ∧ some wr.heap.size ≠ o2.ownBlock ∧ Below w.heap.size w wi) (fun _ i2 _ => L.length - (intOf i2).toNat)
          case atStart =>
            exact ⟨0, A, c, es, by omega, rfl, by rw [List.take_zero, List.append_nil]; exact Hes.out, rfl, HG.out.keep (box_below wr _), (cells2 (blk_new wr _)).1, hown0, below_alloc hbr _⟩
          case round =>
            obtain ⟨k, A2, c2, es2, hk, rfl, hes2, rfl, hG2, hf2, ho2, hbi⟩ := hrel
            have Hes2 := Lib.hid hes2
            have HG2 := Lib.hid hG2
            clear hes2 hG2
            by_cases hkL : k < L.length
            · obtain ⟨cv, hc0, hc1, hc2, hin1, hin2, hby⟩ := Hec'.out.at k hkL
              have y0 : wr.cell? ⟨rb', ro' + k * 3, none⟩ = some (.int .i64 L[k].kind) := cell_keep hbi (Hrc'.out _ _ hc0)
              have y1 : wr.cell? ⟨rb', ro' + k * 3 + 1, none⟩ = some (.int .i64 L[k].term) := by rw [Nat.add_assoc]; exact cell_keep hbi (Hrc'.out _ _ hc1)
              have y2 : wr.cell? ⟨rb', ro' + k * 3 + 2, none⟩ = some cv := by rw [Nat.add_assoc]; exact cell_keep hbi (Hrc'.out _ _ hc2)
              have Hby := Lib.hid (hby.keep hbi)
              obtain ⟨cA, cc, rfl⟩ := hby.slice
              have hkL2 : (k : Int) < (L.length : Int) := by omega
              have hkc : (k : Int) ≤ 4096 := by omega
              have hP : (allOf ((g.rs.drop j).take q) ++ L.take k).length = (allOf ((g.rs.drop j).take q)).length + k := by simp; omega
              have hplace : from_ ≤ f + k ↔ d ≤ (allOf ((g.rs.drop j).take q) ++ L.take k).length := by
                have := Hseq.out; have := Hd.out; rw [hP]; omega
              have hnext := take_push d most.toNat (allOf ((g.rs.drop j).take q) ++ L.take k) L[k]
              rw [List.append_assoc, ← List.take_succ_eq_append_getElem hkL, ← Hes2.out] at hnext
              have Hnext := Lib.hid hnext
              have Hplace := Lib.hid hplace
              clear hc0 hc1 hc2 hby hP hnext hplace
              have yf := fun o' => cell_keep (box_below wr o') hf2
              by_cases hadd : from_ ≤ f + k ∧ (es2.length : Int) < most
              · obtain ⟨hA, hB⟩ := hadd
                have hyes : d ≤ (allOf ((g.rs.drop j).take q) ++ L.take k).length ∧ es2.length < most.toNat := ⟨Hplace.out.1 hA, by omega⟩
                have hnx := Hnext.out
                rw [if_pos hyes] at hnx
                have Hnx := Lib.hid hnx
                have hcl : L[k].cmd.length ≤ 140737488355328 := by have := Hcmd.out L[k] (List.getElem_mem hkL); omega
                have hlen2 : es2.length ≤ 4096 := by
                  have e2 := Hsum.out
                  have e1 := congrArg List.length Hes2.out
                  rw [List.length_take, List.length_drop, List.length_append, List.length_take] at e1
                  omega
                obtain ⟨i0, hi0, hz0, hz1, hz2⟩ := info_parts infoEntry
                obtain ⟨cs2, hown2, hec2⟩ := HG2.out
                have Hown2 := Lib.hid hown2
                have Hec2 := Lib.hid hec2
                obtain ⟨x0, x1, x2, -⟩ := cells3 (blk_new wr (.cells #[.int .i64 L[k].kind, .int .i64 L[k].term, .slice cA L[k].cmd.length cc] 113))
                clear hnx hyes hown2 hec2
                go_wp2_with (first | (go_at_call 88; refine (own_any _ L[k].kind L[k].term _ L[k].cmd (Hby.out.keep (box_below wr _)) hcl).mono ?_; rintro _ w5 ⟨ov, rfl, hov, hb5⟩; obtain ⟨oA, oc, rfl⟩ := hov.slice; have Hov := Lib.hid hov; clear hov) | (at_builtin; refine wpList_append_own_at _ rfl _ _ 22 rfl w.heap.size 113 i0 _ 3 40 Tryz.underlying22 hi0 hz0 hz1 hz2 rfl (by decide) _ es2.length cs2 rfl ?ho ⟨w5.heap.size, 0, none⟩ 1 1 [.int .i64 L[k].kind, .int .i64 L[k].term, .slice oA L[k].cmd.length oc] rfl rfl ?hn ?h1 ?hm ?h7 ?hB ?_))
                case ho => exact (own_keep (own_keep Hown2.out (box_below wr _)) hb5).alloc _
                case hn => exact World.news_of_block (cs := #[.int .i64 L[k].kind, .int .i64 L[k].term, .slice oA L[k].cmd.length oc]) (t := 113) (fr := (0, 0)) (blk_new w5 _)
                case h1 => simp [Value.oneCell']
                case hm => simp [maxLen]; omega
                case h7 => omega
                case hB => have h1 := hbi.size; have h2 := (below_then (box_below wr _) hb5).size; simp; omega
                intro v6 w6 hown6 hg6 _ hat6
                obtain ⟨g6, cap6, rfl, hgb6, hgl6⟩ := hown6.form (by omega)
                have hW := below_then (box_below wr _) hb5
                have hWs := hW.size
                have hov' := Hov.out.mono (T := (wr.heap.size ≤ ·)) (fun b _ h => by simp at h; omega)
                have hGp := Gathered.push Hown2.out rfl Hec2.out hbi.size hW hin1 hin2 hov' hown6 hg6 hat6
                have hB0 := block_lt hf2
                have hf6 := (World.cell?_of_block (hg6.block _ (by simp; exact Nat.lt_of_lt_of_le hB0 (by omega)) ho2)).trans (cell_keep (box_below w5 _) (cell_keep hW hf2))
                have hb6 : Below w.heap.size w w6 := by
                  refine (below_alloc (below_then hbi hW) _).grown hg6 (by simp; have := hbi.size; omega) fun j6 ej => ?_
                  rcases Hown2.out.2 with ⟨e6, _⟩ | ⟨g7, cap7, cur7, e7, hgb7, _, _⟩
                  · rw [e6] at ej; simp [Value.ownBlock] at ej
                  · rw [e7] at ej
                    obtain rfl : g7 = j6 := by simpa [Value.ownBlock] using ej
                    exact hgb7
                have ho6' : ∀ B0, some B0 ≠ (Value.slice A2 es2.length c2).ownBlock → B0 < wr.heap.size → some B0 ≠ (Value.slice (some ⟨g6, 0, none⟩) (es2.length + 1) cap6).ownBlock := by
                  intro B0 h1 h2
                  rcases hat6 with e6 | e6
                  · rw [e6]; exact h1
                  · rw [e6]; intro h; simp at h; omega
                have ho6 := ho6' _ ho2 hB0
                clear ho6'
                have HGp := Lib.hid hGp
                clear hown6 hg6 hat6 hGp
                go_wp2_with fail
                go_roundw
                case rel => exact ⟨k + 1, some ⟨g6, 0, none⟩, cap6, es2 ++ [L[k]], hkL, by simp, Hnx.out.symm, by simp, HGp.out, hf6, ho6, hb6⟩
                case measure => simp [intOf]; omega
              · have hno : ¬ (d ≤ (allOf ((g.rs.drop j).take q) ++ L.take k).length ∧ es2.length < most.toNat) := fun h => hadd ⟨Hplace.out.2 h.1, by omega⟩
                have hnx := Hnext.out
                rw [if_neg hno] at hnx
                have Hnx := Lib.hid hnx
                have hadd' : f + k < from_ ∨ (from_ ≤ f + k ∧ most ≤ (es2.length : Int)) := by omega
                clear hnx hno hadd
                rcases hadd' with hA | ⟨hA, hB⟩
                all_goals
                  go_wp2_with fail
                  go_roundw
                  case rel => exact ⟨k + 1, A2, c2, es2, hkL, by simp, Hnx.out.symm, rfl, HG2.out.keep (box_below wr _), yf _, ho2, below_alloc hbi _⟩
                  case measure => simp [intOf]; omega
            · obtain rfl : k = L.length := by omega
              go_wp2_with fail
              go_roundw
              case rel =>
                refine ⟨q + 1, A2, c2, es2, hqR, by simp, ?_, rfl, HG2.out, hbi⟩
                rw [Hes2.out, Htk.out, allOf_append, List.take_length]
                simp [allOf]
              case measure => simp [intOf]; omega
        · obtain rfl : q = R := by omega
          go_wp2_with fail
          go_ret
          refine ⟨_, rfl, ?_, hbr⟩
          have hx := HG.out.ents
          rw [Lg.Good.slice_at hg hj h1 h2 h3, Hd.out]
          have e : (g.rs.drop j).take q = g.rs.drop j := by
            apply List.take_of_length_le
            have := HR.out; have := Hij.out; have := Hplen.out
            simp; omega
          have he := Hes.out
          rw [e] at he
          rw [← he]
          exact hx
  · have := hg.noPart fun j hj => hno j hj hj
    clear hno
    go_wp2_with fail
    go_ret
    exact ⟨_, rfl, HE.out _ _ rfl (by unfold Lg.slice; rw [if_neg (by omega)]), below_alloc hb _⟩
end Go.Proofs.YtahagecdebadfaaGreat

namespace Go.Proofs.YtahagecdebadfaaGreat
open Go
theorem drop_at {l : List Oper} {i : Nat} {o : Oper} {r : List Oper} (h : l.drop i = o :: r) : l.toArray[i]? = some o := by
  rw [List.getElem?_toArray]
  have := congrArg (fun x => x[0]?) h
  simpa using this
theorem rg_skip {P : Program} {md : Region.Mode} {l : List Oper} {Q : Exit → Act → World → Prop} {S : World → Prop} (i : Nat) {o : Oper} {r : List Oper} {fuel : Nat} {listed : Array Bool} {a : Act} {w : World} (hi : l.drop i = o :: r)
    (hs : Region.noSelect l.toArray = true) (hf : Region.free md l.toArray listed i = true) (hr : (Region.ready md l.toArray listed).contains i = true)
    (hQ : ∀ c a w, Q (.panic c) (a.put o.dst undef) w → Q (.panic c) a w) (hw : Region.wanted o (yielded l.toArray a.tmps) = false) (hS : S w)
    (h : wpAnyH P md l.toArray Q S fuel (listed.setIfInBounds i true) (a.put o.dst undef) w) : wpAnyH P md l.toArray Q S (fuel + 1) listed a w :=
  wpAnyH_take (drop_at hi) hs hf hr hQ (Or.inr ⟨hw, rfl⟩) hS h
theorem rg_take {P : Program} {md : Region.Mode} {l : List Oper} {Q : Exit → Act → World → Prop} {S : World → Prop} (i : Nat) {o : Oper} {r : List Oper} {v : Value} {fuel : Nat} {listed : Array Bool} {a : Act} {w : World} (hi : l.drop i = o :: r)
    (hs : Region.noSelect l.toArray = true) (hf : Region.free md l.toArray listed i = true) (hr : (Region.ready md l.toArray listed).contains i = true)
    (hQ : ∀ c a w, Q (.panic c) (a.put o.dst v) w → Q (.panic c) a w) (hw : Region.wanted o (yielded l.toArray a.tmps) = true) (hS : S w) (hv : ∀ w, S w → (execOp a.eval o).run P w = .ok (.value v) w)
    (h : wpAnyH P md l.toArray Q S fuel (listed.setIfInBounds i true) (a.put o.dst v) w) : wpAnyH P md l.toArray Q S (fuel + 1) listed a w :=
  wpAnyH_take (drop_at hi) hs hf hr hQ (Or.inl ⟨hw, hv⟩) hS h
theorem rg_step {P : Program} {md : Region.Mode} {l : List Oper} {Q : Exit → Act → World → Prop} {S : World → Prop} (i : Nat) {o : Oper} {r : List Oper} {fuel : Nat} {listed : Array Bool} {a : Act} {w : World} {rs : List Nat} (hi : l.drop i = o :: r)
    (h : ∀ K' : Act → World → Prop, Shut (∀ a w, S w → (S w → wpAnyH P md l.toArray Q S fuel (listed.setIfInBounds i true) a w) → K' a w) → if Region.wanted o (yielded l.toArray a.tmps) = true then Oper.wp P o a w K' Q else K' (a.put o.dst undef) w)
    (hs : AllReadyH P md l.toArray Q S fuel listed a w rs) : AllReadyH P md l.toArray Q S fuel listed a w (i :: rs) :=
  AllReadyH.cons (drop_at hi) h hs
end Go.Proofs.YtahagecdebadfaaGreat

namespace Go.Proofs.YtahagecdebadfaaGreat
open Go.RowKit

theorem and_i64 (a b : Nat) (ha : a < 9223372036854775808) (hb : b < 9223372036854775808) : bits .and .i64 (a : Int) (b : Int) = ((a &&& b : Nat) : Int) :=
  (bits_nat .i64 63 (by decide) (fun n h0 h1 => IntWalk.i64_in n (by omega)) a b ha hb).1
theorem or_i64 (a b : Nat) (ha : a < 9223372036854775808) (hb : b < 9223372036854775808) : bits .or .i64 (a : Int) (b : Int) = ((a ||| b : Nat) : Int) :=
  (bits_nat .i64 63 (by decide) (fun n h0 h1 => IntWalk.i64_in n (by omega)) a b ha hb).2
/-- How many are in a set. -/
def pop (s : Nat) : Nat := s % 2 + s / 2 % 2 + s / 4 % 2 + s / 8 % 2 + s / 16 % 2 + s / 32 % 2 + s / 64 % 2 + s / 128 % 2
set_option maxRecDepth 100000 in
theorem pop_next : ∀ s : Fin 256, s.val ≠ 0 → (s.val &&& (s.val - 1)) < s.val ∧ pop (s.val &&& (s.val - 1)) + 1 = pop s.val := by decide
theorem pop_le (s : Nat) : pop s ≤ 8 := by unfold pop; omega
def hasB (s i : Nat) : Bool := s / 2 ^ i % 2 == 1
set_option maxRecDepth 100000 in
theorem ssize_any (s : Nat) (hs : s < 256) (w : World) : Calls Tryz.prog 92 #[.int .i64 s] w fun e w' => e = .returned (.int .i64 (pop s)) ∧ w = w' := by
  have Hs := Lib.hid hs
  clear hs
  go_enter Tryz.func92, Tryz.ntmps92
  go_wp2_with fail
  go_loop [0, 3] (fun a n => ∃ t k : Nat, a = .int .i64 t ∧ n = .int .i64 k ∧ t ≤ 255 ∧ k ≤ 8 ∧ Hid (k + pop t = pop s)) (fun a _ => (intOf a).toNat)
  case atStart => exact ⟨s, 0, rfl, rfl, by have := Hs.out; omega, by omega, Lib.hid (by simp)⟩
  case round =>
    obtain ⟨t, k, rfl, rfl, ht, hk, HP⟩ := hrel
    by_cases h0 : t = 0
    · subst h0
      have hkp : k = pop s := by have := HP.out; simpa [pop] using this
      have Hk := Lib.hid hkp
      clear hkp
      go_wp2_with fail
      go_ret
      exact ⟨by rw [← Hk.out]; rfl, rfl⟩
    · have h1 : ¬ (t : Int) = 0 := by omega
      obtain ⟨hn1, hn2⟩ := pop_next ⟨t, by omega⟩ h0
      simp only at hn1 hn2
      have hand := and_i64 t (t - 1) (by omega) (by omega)
      rw [show ((t - 1 : Nat) : Int) = (t : Int) - 1 by omega] at hand
      have hle := pop_le s
      have hpk := HP.out
      obtain ⟨u, hu⟩ : ∃ u, t &&& (t - 1) = u := ⟨_, rfl⟩
      rw [hu] at hn1 hn2 hand
      have hk2 : k + 1 ≤ 8 := by omega
      have HP2 : Hid (k + 1 + pop u = pop s) := Lib.hid (by omega)
      have HN := Lib.hid hn1
      clear hu hn1 hn2 hle hpk
      go_wp2_with fail
      refine ⟨⟨u, k + 1, rfl, by simp, by have := HN.out; omega, hk2, HP2⟩, ?_⟩
      have := HN.out
      simp only [intOf]
      omega
attribute [irreducible] pop
end Go.Proofs.YtahagecdebadfaaGreat

namespace Go.Proofs.YtahagecdebadfaaGreat
open Go.RowKit

theorem and_one (s : Nat) : s &&& 1 = s % 2 := Nat.and_one_is_mod s
theorem hasB_bit (s i : Nat) : decide (((s / 2 ^ i &&& 1 : Nat) : Int) = 1) = hasB s i := by
  rw [and_one]
  unfold hasB
  by_cases h : s / 2 ^ i % 2 = 1
  · simp [h]
  · have : s / 2 ^ i % 2 = 0 := by omega
    simp [this]
set_option maxHeartbeats 1000000 in
theorem shas_any (s i : Nat) (w : World) (hs : s < 256) (hi : i < 5) : Calls Tryz.prog 44 #[.int .i64 s, .int .i64 i] w fun e w' => e = .returned (.bool (hasB s i)) ∧ w = w' := by
  have hb := hasB_bit s i
  have ha := and_i64 (s / 2 ^ i) 1 (Nat.lt_of_le_of_lt (Nat.div_le_self _ _) (by omega)) (by omega)
  rw [show (decide (((s / 2 ^ i &&& 1 : Nat) : Int) = 1)) = (((s / 2 ^ i &&& 1 : Nat) : Int) == 1) from rfl, ← ha] at hb
  have Hb := Lib.hid hb
  clear hb ha
  obtain rfl | rfl | rfl | rfl | rfl : i = 0 ∨ i = 1 ∨ i = 2 ∨ i = 3 ∨ i = 4 := by omega
  all_goals
    simp only [Nat.reducePow, Nat.div_one] at Hb
    go_enter Tryz.func44, Tryz.ntmps44
    go_wp2_with fail
    go_ret
    exact ⟨congrArg (fun x => Ending.returned (.bool x)) Hb.out, rfl⟩
set_option maxHeartbeats 1000000 in
theorem swith_any (s i : Nat) (w : World) (hs : s < 256) (hi : i < 5) : Calls Tryz.prog 97 #[.int .i64 s, .int .i64 i] w fun e w' => e = .returned (.int .i64 ((s ||| 2 ^ i : Nat) : Int)) ∧ w = w' := by
  have ha := or_i64 s (2 ^ i) (by omega) (Nat.lt_of_lt_of_le (Nat.pow_lt_pow_right (by omega) hi) (by omega))
  obtain rfl | rfl | rfl | rfl | rfl : i = 0 ∨ i = 1 ∨ i = 2 ∨ i = 3 ∨ i = 4 := by omega
  all_goals
    have Ha := Lib.hid ha
    clear ha
    go_enter Tryz.func97, Tryz.ntmps97
    go_wp2_with fail
    go_ret
    exact ⟨congrArg (fun x => Ending.returned (.int .i64 x)) Ha.out, rfl⟩
set_option maxHeartbeats 1000000 in
theorem srules_any (s a : Nat) (w : World) (hs : s < 256) (ha : a < 256) : Calls Tryz.prog 107 #[.int .i64 s, .int .i64 a] w fun e w' => e = .returned (.bool (decide (pop a < 2 * pop (s &&& a)))) ∧ w = w' := by
  have hand := and_i64 s a (by omega) (by omega)
  have hsa : s &&& a < 256 := Nat.lt_of_le_of_lt Nat.and_le_left hs
  have h1 := pop_le (s &&& a)
  have h2 := pop_le a
  have q1 := ssize_any (s &&& a) hsa w
  have q2 := ssize_any a ha w
  obtain ⟨u, hu⟩ : ∃ u, s &&& a = u := ⟨_, rfl⟩
  rw [hu] at hand h1 q1 ⊢
  clear hu hsa
  obtain ⟨p1, hp1⟩ : ∃ p1, pop u = p1 := ⟨_, rfl⟩
  obtain ⟨p2, hp2⟩ : ∃ p2, pop a = p2 := ⟨_, rfl⟩
  rw [hp1] at h1 q1 ⊢
  rw [hp2] at h2 q2 ⊢
  clear hp1 hp2
  have H1 := Lib.hid q1
  have H2 := Lib.hid q2
  clear q1 q2
  have he : decide (2 * (p1 : Int) > (p2 : Int)) = decide (p2 < 2 * p1) := decide_eq_decide.2 (by omega)
  have He := Lib.hid he
  clear he
  go_enter Tryz.func107, Tryz.ntmps107
  go_wp2_with fail
  refine H1.out.mono ?_
  rintro e w' ⟨rfl, rfl⟩
  go_wp2_with fail
  refine H2.out.mono ?_
  rintro e w' ⟨rfl, rfl⟩
  go_wp2_with fail
  go_ret
  exact ⟨congrArg (fun x => Ending.returned (.bool x)) He.out, rfl⟩

theorem blk_set {W : World} {b k : Nat} {cs : Array Value} {t : TypeId} (h : W.heap[b]? = some (.cells cs t (0, 0))) (v : Value) :
    (W.setCell ⟨b, k, none⟩ v).heap[b]? = some (.cells (cs.setIfInBounds k v) t (0, 0)) := by
  simp [World.setCell, Array.getElem?_modify, h]

/-- The block of a replica. -/
def RfBlk (w : World) (p : Nat) (c : Array Value) : Prop := w.heap[p]? = some (.cells c 92 (0, 0))
theorem cells13 {w : World} {p : Nat} {x0 x1 x2 x3 x4 x5 x6 x7 x8 x9 x10 x11 x12 : Value} {t : TypeId} (h : w.heap[p]? = some (.cells #[x0, x1, x2, x3, x4, x5, x6, x7, x8, x9, x10, x11, x12] t (0, 0))) :
    (w.cell? ⟨p, 0, none⟩ = some x0 ∧ w.cell? ⟨p, 1, none⟩ = some x1 ∧ w.cell? ⟨p, 2, none⟩ = some x2 ∧ w.cell? ⟨p, 3, none⟩ = some x3 ∧ w.cell? ⟨p, 4, none⟩ = some x4 ∧ w.cell? ⟨p, 5, none⟩ = some x5 ∧ w.cell? ⟨p, 6, none⟩ = some x6 ∧ w.cell? ⟨p, 7, none⟩ = some x7 ∧ w.cell? ⟨p, 8, none⟩ = some x8 ∧ w.cell? ⟨p, 9, none⟩ = some x9 ∧ w.cell? ⟨p, 10, none⟩ = some x10 ∧ w.cell? ⟨p, 11, none⟩ = some x11 ∧ w.cell? ⟨p, 12, none⟩ = some x12) ∧
    ∀ k, w.frozen? ⟨p, k, none⟩ = false := by
  refine ⟨?_, fun k => ?_⟩ <;> simp [World.cell?, World.frozen?, h]

set_option maxHeartbeats 1000000 in
theorem rbe_any (p : Nat) (x0 x1 x2 x3 x4 x5 x6 x7 x8 x9 x10 x11 x12 : Value) (t : TypeId) (v : Value) (k : Int) (w : World) (h : w.heap[p]? = some (.cells #[x0, x1, x2, x3, x4, x5, x6, x7, x8, x9, x10, x11, x12] 92 (0, 0))) :
    Calls Tryz.prog 95 #[.pointer (some ⟨p, 0, none⟩), .iface t v, .int .i64 k] w fun e w' => e = .returned (.tuple #[]) ∧ w' = (w.setCell ⟨p, 6, none⟩ (.iface t v)).setCell ⟨p, 3, none⟩ (.int .i64 k) := by
  obtain ⟨⟨c0, c1, c2, c3, c4, c5, c6, c7, c8, c9, c10, c11, c12⟩, hf⟩ := cells13 h
  have f6 := hf 6
  have f3 := hf 3
  go_enter Tryz.func95, Tryz.ntmps95
  go_wp2_with fail
  go_end0
  exact ⟨rfl, rfl⟩
set_option maxHeartbeats 1000000 in
theorem rposted_any (p : Nat) (x0 x1 x2 x3 x4 x5 x6 x7 x8 x9 x10 x11 x12 : Value) (w : World) (h : w.heap[p]? = some (.cells #[x0, x1, x2, x3, x4, x5, x6, x7, x8, x9, x10, x11, x12] 92 (0, 0))) :
    Calls Tryz.prog 50 #[.pointer (some ⟨p, 0, none⟩)] w fun e w' => e = .returned x12 ∧ w' = w.setCell ⟨p, 12, none⟩ (.slice none 0 0) := by
  obtain ⟨⟨c0, c1, c2, c3, c4, c5, c6, c7, c8, c9, c10, c11, c12⟩, hf⟩ := cells13 h
  have f12 := hf 12
  go_enter Tryz.func50, Tryz.ntmps50
  go_wp2_with fail
  go_ret
  exact ⟨rfl, rfl⟩
set_option maxHeartbeats 1000000 in
theorem rdraw_none (p : Nat) (me : Int) (x1 x2 x3 x4 x5 x6 x7 x8 x9 _x10 x11 x12 : Value) (w : World) (h : w.heap[p]? = some (.cells #[.int .i64 me, x1, x2, x3, x4, x5, x6, x7, x8, x9, .slice none 0 0, x11, x12] 92 (0, 0))) (hm : 0 ≤ me) (hm' : me < 5) :
    Calls Tryz.prog 37 #[.pointer (some ⟨p, 0, none⟩)] w fun e w' => e = .returned (.tuple #[]) ∧ w' = w.setCell ⟨p, 9, none⟩ (.int .i64 (10 + 2 * me)) := by
  obtain ⟨⟨c0, c1, c2, c3, c4, c5, c6, c7, c8, c9, c10, c11, c12⟩, hf⟩ := cells13 h
  have f9 := hf 9
  go_enter Tryz.func37, Tryz.ntmps37
  go_wp2_with fail
  go_end0
  exact ⟨rfl, rfl⟩
theorem assert_leader (v : Value) (w : World) : (Instr.typeAssert (.iface 95 v) 90 95 true).run Tryz.prog w = .ok (.tuple #[v, .bool true]) w := by kernel_rfl
theorem assert_follower (v : Value) (w : World) : (Instr.typeAssert (.iface 88 v) 90 95 true).run Tryz.prog w = .ok (.tuple #[.pointer none, .bool false]) w := by kernel_rfl
attribute [go_sem] assert_leader assert_follower
set_option maxHeartbeats 1000000 in
theorem rleads_yes (p : Nat) (x0 x1 x2 x3 x4 x5 x6 x7 x8 x9 x10 x11 x12 : Value) (w : World) (h : w.heap[p]? = some (.cells #[x0, x1, x2, x3, x4, x5, .iface 95 x6, x7, x8, x9, x10, x11, x12] 92 (0, 0))) :
    Calls Tryz.prog 41 #[.pointer (some ⟨p, 0, none⟩)] w fun e w' => e = .returned x6 ∧ w' = w := by
  obtain ⟨⟨c0, c1, c2, c3, c4, c5, c6, c7, c8, c9, c10, c11, c12⟩, hf⟩ := cells13 h
  go_enter Tryz.func41, Tryz.ntmps41
  go_wp2_with fail
  go_ret
  exact ⟨rfl, rfl⟩
set_option maxHeartbeats 1000000 in
theorem rleads_follower (p : Nat) (x0 x1 x2 x3 x4 x5 x6 x7 x8 x9 x10 x11 x12 : Value) (w : World) (h : w.heap[p]? = some (.cells #[x0, x1, x2, x3, x4, x5, .iface 88 x6, x7, x8, x9, x10, x11, x12] 92 (0, 0))) :
    Calls Tryz.prog 41 #[.pointer (some ⟨p, 0, none⟩)] w fun e w' => e = .returned (.pointer none) ∧ w' = w := by
  obtain ⟨⟨c0, c1, c2, c3, c4, c5, c6, c7, c8, c9, c10, c11, c12⟩, hf⟩ := cells13 h
  go_enter Tryz.func41, Tryz.ntmps41
  go_wp2_with fail
  go_ret
  exact ⟨rfl, rfl⟩
end Go.Proofs.YtahagecdebadfaaGreat

namespace Go.Proofs.YtahagecdebadfaaGreat
open Go.RowKit

theorem cells4 {w : World} {b : Nat} {x0 x1 x2 x3 : Value} {t : TypeId} (h : w.heap[b]? = some (.cells #[x0, x1, x2, x3] t (0, 0))) :
    (w.cell? ⟨b, 0, none⟩ = some x0 ∧ w.cell? ⟨b, 1, none⟩ = some x1 ∧ w.cell? ⟨b, 2, none⟩ = some x2 ∧ w.cell? ⟨b, 3, none⟩ = some x3) ∧ ∀ k, w.frozen? ⟨b, k, none⟩ = false := by
  refine ⟨by simp [World.cell?, h], fun k => ?_⟩
  simp [World.frozen?, h]
def RLogAt (w : World) (b : Nat) : Prop := ∃ a t m : Int, w.heap[b]? = some (.cells #[.int .i64 a, .int .i64 t, .int .i64 m, .slice none 0 0] 94 (0, 0))
theorem qnew_any (a t m : Int) (w : World) :
    Calls Tryz.prog 29 #[.int .i64 a, .int .i64 t, .int .i64 m] w fun e w' => Below w.heap.size w w' ∧
      ((∃ b, e = .returned (.tuple #[.pointer (some ⟨b, 0, none⟩), .int .i64 0]) ∧ RLogAt w' b) ∨ e = .returned (.tuple #[.pointer none, .int .i64 1])) := by
  go_enter Tryz.func29, Tryz.ntmps29
  go_wp2_with (first | (go_at_call 39; refine (qcan_any _ _).mono ?_; rintro e w' ⟨rfl, rfl⟩) | (go_at_call 83; refine (qmask_any _ _).mono ?_; rintro e w' ⟨rfl, rfl⟩))
  all_goals go_ret2
  all_goals first
    | exact ⟨Below.refl _ _, .inr rfl⟩
    | exact ⟨box_below _ _, .inl ⟨_, rfl, _, _, _, blk_new _ _⟩⟩
theorem qtop_any (b : Nat) (w : World) (h : RLogAt w b) :
    Calls Tryz.prog 38 #[.pointer (some ⟨b, 0, none⟩)] w fun e w' => (∃ a t, e = .returned (.tuple #[.int .i64 a, .int .i64 t])) ∧ Below w.heap.size w w' := by
  obtain ⟨a, t, m, h⟩ := h
  obtain ⟨⟨c0, c1, c2, c3⟩, -⟩ := cells4 h
  go_enter Tryz.func38, Tryz.ntmps38
  go_wp2_with fail
  refine wp_loop_rounds 1 ?_
  rw [rounds_succ]
  go_wp2_with fail
  go_ret2
  exact ⟨⟨_, _, rfl⟩, Below.refl _ _⟩
theorem step_append_run {P : Program} {ops : Array Oper} {o : Oper} {a : Act} {w : World} {K : Act → World → Prop} {Q : Exit → Act → World → Prop} {E : Prop}
    (hg : o.guard = none) (s x : Operand) (t : TypeId) (hop : o.op = Op.call { callee := Callee.builtin Builtin.append, args := #[s, x], argTypes := #[t, t] }) (vs vx : Value) (hs : a.eval s = vs) (hx : a.eval x = vx) (v' : Value) (w' : World)
    (hr : (Builtin.append_ #[t, t] o.type #[vs, vx]).run P w = .ok v' w') (hK : K (a.put o.dst v') w') :
    if Region.wanted o (yielded ops a.tmps) = true then Oper.wp P o a w K Q else E := by
  have hw : Region.wanted o (yielded ops a.tmps) = true := by simp [Region.wanted, hg]
  rw [if_pos hw]
  unfold Oper.wp
  simp [execOp, hop, resolve, invoke, builtin, hs, hx, hr, Result.andThen]
  exact hK
attribute [local go_sem ↓] Go.wp_at_zero Go.wp_at_succ
set_option maxHeartbeats 4000000 in
/-- A copy of entries is made; what is in it is not asked. -/
theorem qlent_any {S : Nat → Prop} (lv : Value) (l : List Ent) (w : World) (hl : Ents S w lv l) (hll : l.length ≤ 4096) (hcm : ∀ e ∈ l, e.cmd.length ≤ 140737488355328) :
    Calls Tryz.prog 90 #[lv] w fun e w' => ∃ o cs, e = .returned o ∧ w'.ownsRow w.heap.size 113 3 o l.length cs ∧ (∀ u ∈ cs, u.oneCell' = true) ∧ Below w.heap.size w w' := by
  obtain ⟨A, lc, rfl⟩ := hl.slice
  have HLl := Lib.hid hl
  have Hcm := Lib.hid hcm
  clear hcm
  by_cases hz : l.length = 0
  · have hz' : (l.length : Int) = 0 := by omega
    clear hl
    go_enter Tryz.func90, Tryz.ntmps90
    go_wp2_with fail
    refine wp_loop_rounds 1 ?_
    rw [rounds_succ]
    go_wp2_with fail
    go_ret
    exact ⟨_, [], rfl, by rw [hz]; exact World.ownsRow_nil _ _ _ _, by simp, Below.refl _ _⟩
  · have hpos : 0 < l.length := by omega
    obtain ⟨cs, hrl, hec⟩ := hl
    obtain ⟨rb, ro, rc, he, hrn, hrc, -, hrb, hrcell⟩ := hrl.form hpos
    injection he with he1 _ he2
    subst he1 he2
    have HC := Lib.hid hrcell
    have HE := Lib.hid hec
    have hrn2 : (l.length : Int) ≤ (lc : Int) := by omega
    clear hrcell hec hrl
    go_enter Tryz.func90, Tryz.ntmps90
    go_wp2_with fail
    go_loopw [3, 4] (fun o i wr => ∃ (k : Nat) (A2 : Option Addr) (c2 : Nat) (cs2 : List Value), k ≤ l.length ∧ i = .int .i64 k ∧ o = .slice A2 k c2 ∧ wr.ownsRow w.heap.size 113 3 o k cs2 ∧ (∀ u ∈ cs2, u.oneCell' = true) ∧ Below w.heap.size w wr) (fun _ i _ => l.length - (intOf i).toNat)
    case atStart => exact ⟨0, none, 0, [], by omega, rfl, rfl, World.ownsRow_nil _ _ _ _, by simp, Below.refl _ _⟩
    case round =>
      obtain ⟨k, A2, c2, cs2, hk, rfl, rfl, hown, hone, hbr⟩ := hrel
      have Hown := Lib.hid hown
      have Hone := Lib.hid hone
      clear hown hone
      by_cases hkl : k < l.length
      · obtain ⟨cv, hc0, hc1, hc2, hin1, hin2, hby⟩ := HE.out.at k hkl
        have y0 : wr.cell? ⟨rb, ro + k * 3, none⟩ = some (.int .i64 l[k].kind) := cell_keep hbr (HC.out _ _ hc0)
        have y1 : wr.cell? ⟨rb, ro + k * 3 + 1, none⟩ = some (.int .i64 l[k].term) := by rw [Nat.add_assoc]; exact cell_keep hbr (HC.out _ _ hc1)
        have y2 : wr.cell? ⟨rb, ro + k * 3 + 2, none⟩ = some cv := by rw [Nat.add_assoc]; exact cell_keep hbr (HC.out _ _ hc2)
        have Hby := Lib.hid (hby.keep hbr)
        have hlen := Hcm.out l[k] (List.getElem_mem hkl)
        obtain ⟨cA, cc, rfl⟩ := hby.slice
        have hkl2 : (k : Int) < (l.length : Int) := by omega
        have hkl3 : ¬ (l.length : Int) ≤ (k : Int) := by omega
        generalize l[k] = en at *
        obtain ⟨ek, et, ecmd⟩ := en
        simp only at y0 y1 y2 Hby hlen hin1 hin2
        clear hc0 hc1 hc2 hby
        go_wp2_with fail
        refine wp_region_held_drew (S := (fun w' => w'.cell? ⟨rb, ro + k * 3, none⟩ = some (.int .i64 ek) ∧ w'.cell? ⟨rb, ro + k * 3 + 1, none⟩ = some (.int .i64 et))) (by kernel_rfl) ?_ ?_
        · ((try dsimp only); go_keep)
        intro hHeld
        refine rg_take 0 (v := ?_) rfl (by kernel_rfl) (by kernel_rfl) (by kernel_rfl) (fun _ _ _ h => h) (by rfl) (by assumption) ?_ ?_
        rotate_left 1
        · (intro w hSw; (try dsimp only at hSw); go_simp; with_reducible rfl)
        try simp only [Act.put, List.setIfInBounds_toArray, List.set_cons_zero, List.set_cons_succ]
        refine rg_take 1 (v := ?_) rfl (by kernel_rfl) (by kernel_rfl) (by kernel_rfl) (fun _ _ _ h => h) (by rfl) (by assumption) ?_ ?_
        rotate_left 1
        · (intro w hSw; (try dsimp only at hSw); go_simp; with_reducible rfl)
        try simp only [Act.put, List.setIfInBounds_toArray, List.set_cons_zero, List.set_cons_succ]
        refine rg_take 2 (v := ?_) rfl (by kernel_rfl) (by kernel_rfl) (by kernel_rfl) (fun _ _ _ h => h) (by rfl) (by assumption) ?_ ?_
        rotate_left 1
        · (intro w hSw; (try dsimp only at hSw); go_simp; with_reducible rfl)
        try simp only [Act.put, List.setIfInBounds_toArray, List.set_cons_zero, List.set_cons_succ]
        refine rg_take 3 (v := ?_) rfl (by kernel_rfl) (by kernel_rfl) (by kernel_rfl) (fun _ _ _ h => h) (by rfl) (by assumption) ?_ ?_
        rotate_left 1
        · (intro w hSw; (try dsimp only at hSw); go_simp; with_reducible rfl)
        try simp only [Act.put, List.setIfInBounds_toArray, List.set_cons_zero, List.set_cons_succ]
        refine rg_take 4 (v := ?_) rfl (by kernel_rfl) (by kernel_rfl) (by kernel_rfl) (fun _ _ _ h => h) (by rfl) (by assumption) ?_ ?_
        rotate_left 1
        · (intro w hSw; (try dsimp only at hSw); go_simp; with_reducible rfl)
        try simp only [Act.put, List.setIfInBounds_toArray, List.set_cons_zero, List.set_cons_succ]
        refine rg_take 5 (v := ?_) rfl (by kernel_rfl) (by kernel_rfl) (by kernel_rfl) (fun _ _ _ h => h) (by rfl) (by assumption) ?_ ?_
        rotate_left 1
        · (intro w hSw; (try dsimp only at hSw); go_simp; with_reducible rfl)
        try simp only [Act.put, List.setIfInBounds_toArray, List.set_cons_zero, List.set_cons_succ]
        refine rg_take 6 (v := ?_) rfl (by kernel_rfl) (by kernel_rfl) (by kernel_rfl) (fun _ _ _ h => h) (by rfl) (by assumption) ?_ ?_
        rotate_left 1
        · (intro w hSw; (try dsimp only at hSw); go_simp; with_reducible rfl)
        try simp only [Act.put, List.setIfInBounds_toArray, List.set_cons_zero, List.set_cons_succ]
        refine rg_take 7 (v := ?_) rfl (by kernel_rfl) (by kernel_rfl) (by kernel_rfl) (fun _ _ _ h => h) (by rfl) (by assumption) ?_ ?_
        rotate_left 1
        · (intro w hSw; (try dsimp only at hSw); go_simp; with_reducible rfl)
        try simp only [Act.put, List.setIfInBounds_toArray, List.set_cons_zero, List.set_cons_succ]
        refine rg_take 8 (v := ?_) rfl (by kernel_rfl) (by kernel_rfl) (by kernel_rfl) (fun _ _ _ h => h) (by rfl) (by assumption) ?_ ?_
        rotate_left 1
        · (intro w hSw; (try dsimp only at hSw); go_simp; with_reducible rfl)
        try simp only [Act.put, List.setIfInBounds_toArray, List.set_cons_zero, List.set_cons_succ]
        refine rg_take 9 (v := ?_) rfl (by kernel_rfl) (by kernel_rfl) (by kernel_rfl) (fun _ _ _ h => h) (by rfl) (by assumption) ?_ ?_
        rotate_left 1
        · (intro w hSw; (try dsimp only at hSw); go_simp; with_reducible rfl)
        try simp only [Act.put, List.setIfInBounds_toArray, List.set_cons_zero, List.set_cons_succ]
        refine rg_take 10 (v := ?_) rfl (by kernel_rfl) (by kernel_rfl) (by kernel_rfl) (fun _ _ _ h => h) (by rfl) (by assumption) ?_ ?_
        rotate_left 1
        · (intro w hSw; (try dsimp only at hSw); go_simp; with_reducible rfl)
        try simp only [Act.put, List.setIfInBounds_toArray, List.set_cons_zero, List.set_cons_succ]
        refine wpAnyH_ready (rs := [11]) (by kernel_rfl) (by simp) ?_
        refine rg_step 11 rfl (fun K hK => ?_) (AllReadyH.nil)
        go_simp
        refine hK.out _ _ ?_ ?_
        · ((try dsimp only); go_keep)
        clear hHeld hK K
        intro hHeld
        try simp only [Act.put, List.setIfInBounds_toArray, List.set_cons_zero, List.set_cons_succ]
        refine wpAnyH_ready (rs := [12]) (by kernel_rfl) (by simp) ?_
        refine rg_step 12 rfl (fun K hK => ?_) (AllReadyH.nil)
        go_simp
        refine hK.out _ _ ?_ ?_
        · ((try dsimp only); go_keep)
        clear hHeld hK K
        intro hHeld
        try simp only [Act.put, List.setIfInBounds_toArray, List.set_cons_zero, List.set_cons_succ]
        refine wpAnyH_done (by kernel_rfl) ?_ _
        obtain ⟨W5, hW5⟩ : ∃ W5, (wr.alloc (.cells #[.int .i64 ek, .int .i64 et, .slice none 0 0] 113)).drew = W5 := ⟨_, rfl⟩
        have hb5 : Below wr.heap.size wr W5 := by rw [← hW5]; exact (box_below wr _).drew
        obtain ⟨E, hE⟩ : ∃ E, wr.heap.size = E := ⟨_, rfl⟩
        have hE5 : W5.heap[E]? = some (.cells #[.int .i64 ek, .int .i64 et, .slice none 0 0] 113 (0, 0)) := by rw [← hW5, ← hE]; exact blk_new wr _
        have z2 := cell_keep hb5 y2
        have hrE : ¬ E = rb := by have := hbr.size; omega
        have hrE2 : ¬ rb = E := fun e => hrE e.symm
        have Hown5 := Lib.hid (own_keep Hown.out hb5)
        obtain ⟨vb, wb, hrun, hob, hgb, -⟩ := run_append_bytes W5.drew W5.heap.size 40 (.slice none 0 0) 0 [] (World.ownsRow_nil _ _ _ _) (.slice cA ecmd.length cc) ecmd (by exact Hby.out.keep hb5.drew) (by omega) (Nat.le_refl _)
        have hbb : Below W5.heap.size W5 wb := below_of_drew (below_of_grown hgb)
        obtain ⟨vA, vc, rfl⟩ := (RowAt.of_own hob).slice
        have z3 := cell_keep hbb z2
        obtain ⟨e0, e1, e2, f0, f1, f2⟩ := cells3 (blk_keep hbb hE5)
        obtain ⟨-, -, e2', -, -, -⟩ := cells3 hE5
        have HE5 := Lib.hid (blk_keep hbb hE5)
        have Hownb := Lib.hid (own_keep Hown5.out hbb)
        rw [hW5]
        rw [hE]
        clear hW5 y0 y1 hE5 hob hgb
        have Hrun := Lib.hid hrun
        clear hrun
        go_wp2_with fail
        refine wp_region_held_drew (S := (fun w' => w'.cell? ⟨rb, ro + k * 3 + 2, none⟩ = some (.slice cA ecmd.length cc))) (by kernel_rfl) ?_ ?_
        · ((try dsimp only); go_keep)
        intro hHeld
        refine rg_take 0 (v := ?_) rfl (by kernel_rfl) (by kernel_rfl) (by kernel_rfl) (fun _ _ _ h => h) (by rfl) (by assumption) ?_ ?_
        rotate_left 1
        · (intro w hSw; (try dsimp only at hSw); go_simp; with_reducible rfl)
        try simp only [Act.put, List.setIfInBounds_toArray, List.set_cons_zero, List.set_cons_succ]
        refine rg_take 2 (v := ?_) rfl (by kernel_rfl) (by kernel_rfl) (by kernel_rfl) (fun _ _ _ h => h) (by rfl) (by assumption) ?_ ?_
        rotate_left 1
        · (intro w hSw; (try dsimp only at hSw); go_simp; with_reducible rfl)
        try simp only [Act.put, List.setIfInBounds_toArray, List.set_cons_zero, List.set_cons_succ]
        refine rg_take 3 (v := ?_) rfl (by kernel_rfl) (by kernel_rfl) (by kernel_rfl) (fun _ _ _ h => h) (by rfl) (by assumption) ?_ ?_
        rotate_left 1
        · (intro w hSw; (try dsimp only at hSw); go_simp; with_reducible rfl)
        try simp only [Act.put, List.setIfInBounds_toArray, List.set_cons_zero, List.set_cons_succ]
        refine rg_take 4 (v := ?_) rfl (by kernel_rfl) (by kernel_rfl) (by kernel_rfl) (fun _ _ _ h => h) (by rfl) (by assumption) ?_ ?_
        rotate_left 1
        · (intro w hSw; (try dsimp only at hSw); go_simp; with_reducible rfl)
        try simp only [Act.put, List.setIfInBounds_toArray, List.set_cons_zero, List.set_cons_succ]
        refine rg_take 5 (v := ?_) rfl (by kernel_rfl) (by kernel_rfl) (by kernel_rfl) (fun _ _ _ h => h) (by rfl) (by assumption) ?_ ?_
        rotate_left 1
        · (intro w hSw; (try dsimp only at hSw); go_simp; with_reducible rfl)
        try simp only [Act.put, List.setIfInBounds_toArray, List.set_cons_zero, List.set_cons_succ]
        refine rg_take 6 (v := ?_) rfl (by kernel_rfl) (by kernel_rfl) (by kernel_rfl) (fun _ _ _ h => h) (by rfl) (by assumption) ?_ ?_
        rotate_left 1
        · (intro w hSw; (try dsimp only at hSw); go_simp; with_reducible rfl)
        try simp only [Act.put, List.setIfInBounds_toArray, List.set_cons_zero, List.set_cons_succ]
        refine wpAnyH_ready (rs := [1]) (by kernel_rfl) (by simp) ?_
        refine rg_step 1 rfl (fun K hK => ?_) (AllReadyH.nil)
        go_simp
        refine hK.out _ _ ?_ ?_
        · ((try dsimp only); go_keep)
        clear hHeld hK K
        intro hHeld
        try simp only [Act.put, List.setIfInBounds_toArray, List.set_cons_zero, List.set_cons_succ]
        refine wpAnyH_ready (rs := [7]) (by kernel_rfl) (by simp) ?_
        refine rg_step 7 rfl (fun K hK => ?_) (AllReadyH.nil)
        (refine step_append_run (by rfl) _ _ _ (by rfl) (.slice none 0 0) (.slice cA ecmd.length cc) (by rfl) (by rfl) _ _ Hrun.out ?_)
        refine hK.out _ _ ?_ ?_
        · ((try dsimp only); go_keep)
        clear hHeld hK K
        intro hHeld
        try simp only [Act.put, List.setIfInBounds_toArray, List.set_cons_zero, List.set_cons_succ]
        refine rg_take 8 (v := ?_) rfl (by kernel_rfl) (by kernel_rfl) (by kernel_rfl) (fun _ _ _ h => h) (by rfl) (by assumption) ?_ ?_
        rotate_left 1
        · (intro w hSw; (try dsimp only at hSw); go_simp; with_reducible rfl)
        try simp only [Act.put, List.setIfInBounds_toArray, List.set_cons_zero, List.set_cons_succ]
        refine wpAnyH_ready (rs := [9]) (by kernel_rfl) (by simp) ?_
        refine rg_step 9 rfl (fun K hK => ?_) (AllReadyH.nil)
        go_simp
        refine hK.out _ _ ?_ ?_
        · ((try dsimp only); go_keep)
        clear hHeld hK K
        intro hHeld
        try simp only [Act.put, List.setIfInBounds_toArray, List.set_cons_zero, List.set_cons_succ]
        refine wpAnyH_done (by kernel_rfl) ?_ _
        obtain ⟨W6, hW6⟩ : ∃ W6, wb.setCell ⟨E, 2, none⟩ (.slice vA ecmd.length vc) = W6 := ⟨_, rfl⟩
        have hb6 : Below wr.heap.size wr W6 := by rw [← hW6]; exact (below_then hb5 hbb).setCell (Nat.le_of_eq hE) _
        have hE6 := blk_set (k := 2) HE5.out (.slice vA ecmd.length vc)
        rw [hW6] at hE6 ⊢
        clear hW6 e0 e1 e2 f0 f1 f2 e2' z2 z3 y2
        obtain ⟨e0, e1, e2, -, -, -⟩ := cells3 hE6
        have Hown6 := Lib.hid (own_keep Hown.out hb6)
        obtain ⟨i0, hi0, hz0, hz1, hz2⟩ := info_parts infoEntry
        have hk46 : k ≤ 4096 := by omega
        go_wp2_with (at_builtin; refine wpList_append_own_at _ rfl _ _ 22 rfl w.heap.size 113 i0 _ 3 40 Tryz.underlying22 hi0 hz0 hz1 hz2 rfl (by decide) _ k cs2 rfl ?ho ⟨W6.heap.size, 0, none⟩ 1 1 [.int .i64 ek, .int .i64 et, .slice vA ecmd.length vc] rfl rfl ?hn ?h1 ?hm ?h7 ?hB ?_)
        case ho => exact own_keep Hown6.out (box_below _ _)
        case hn => exact World.news_of_block (cs := #[.int .i64 ek, .int .i64 et, .slice vA ecmd.length vc]) (t := 113) (fr := (0, 0)) (blk_new W6 _)
        case h1 => simp [Value.oneCell']
        case hm => simp [maxLen]; omega
        case h7 => omega
        case hB => have h1 := hbr.size; have h2 := hb6.size; simp; omega
        intro v6 w6 hown6 hg6 _ hat6
        obtain ⟨vA6, vc6, rfl⟩ := (RowAt.of_own hown6).slice
        have Hown7 := Lib.hid hown6
        have hone7 : ∀ u ∈ cs2 ++ [.int .i64 ek, .int .i64 et, .slice vA ecmd.length vc], u.oneCell' = true := by
          intro u hu
          rcases List.mem_append.1 hu with h | h
          · exact Hone.out u h
          · simp at h; rcases h with rfl | rfl | rfl <;> rfl
        have hb7 : Below w.heap.size w w6 := by
          refine (below_alloc (below_then hbr hb6) _).grown hg6 (by simp; have := hbr.size; have := hb6.size; omega) fun j6 ej => ?_
          rcases Hown.out.2 with ⟨e6, _⟩ | ⟨g7, cap7, cur7, e7, hgb7, _, _⟩
          · rw [e6] at ej; simp [Value.ownBlock] at ej
          · rw [e7] at ej
            obtain rfl : g7 = j6 := by simpa [Value.ownBlock] using ej
            exact hgb7
        have Hone7 := Lib.hid hone7
        clear hown6 hone7 hg6 hat6 e0 e1 e2
        go_wp2_with fail
        go_roundw
        case rel => exact ⟨k + 1, vA6, vc6, _, hkl, by simp, rfl, Hown7.out, Hone7.out, hb7⟩
        case measure => simp [intOf]; omega
      · obtain rfl : k = l.length := by omega
        go_wp2_with fail
        go_ret
        exact ⟨_, cs2, rfl, Hown.out, Hone.out, hbr⟩
end Go.Proofs.YtahagecdebadfaaGreat

namespace Go.Proofs.YtahagecdebadfaaGreat
open Go.RowKit
attribute [local go_sem ↓] Go.wp_at_zero Go.wp_at_succ

def nth5 (l : List Int) (k : Nat) : Int := l.getD k 0
/-- Who has a number, among the first k. -/
def geSet (l : List Int) (n : Int) : Nat → Nat
  | 0 => 0
  | k + 1 => if n ≤ nth5 l k then geSet l n k ||| 2 ^ k else geSet l n k
def rulesB (s all : Nat) : Bool := decide (pop all < 2 * pop (s &&& all))
def bestGo (l : List Int) (all : Nat) : Nat → Int
  | 0 => 0
  | k + 1 => if bestGo l all k < nth5 l k ∧ rulesB (geSet l (nth5 l k) 5) all = true then nth5 l k else bestGo l all k
theorem geSet_lt (l : List Int) (n : Int) : ∀ k, geSet l n k < 2 ^ k
  | 0 => by simp [geSet]
  | k + 1 => by
    have h := geSet_lt l n k
    have h2 : 2 ^ k < 2 ^ (k + 1) := Nat.pow_lt_pow_right (by omega) (by omega)
    unfold geSet
    split
    · exact Nat.or_lt_two_pow (by omega) h2
    · omega
theorem index5 (y0 y1 y2 y3 y4 : Int) (k : Nat) (hk : k < 5) (W : World) : (Instr.index 97 (.agg #[.int .i64 y0, .int .i64 y1, .int .i64 y2, .int .i64 y3, .int .i64 y4]) (.int .i64 k)).run Tryz.prog W = .ok (.int .i64 (nth5 [y0, y1, y2, y3, y4] k)) W := by
  obtain rfl | rfl | rfl | rfl | rfl : k = 0 ∨ k = 1 ∨ k = 2 ∨ k = 3 ∨ k = 4 := by omega
  all_goals kernel_rfl

set_option maxHeartbeats 4000000 in
theorem rbest_any (p : Nat) (me mine : Int) (l0 l1 l2 l3 l4 : Int) (all : Nat) (ha : all < 256) (x1 x2 x3 x4 x5 x6 x7 x8 x9 x10 x11 x12 : Value) (w : World) (h : w.heap[p]? = some (.cells #[.int .i64 me, x1, x2, x3, x4, x5, x6, x7, x8, x9, x10, x11, x12] 92 (0, 0))) (hm : 0 ≤ me) (hm' : me < 5)
    (hM : ∀ W, Below w.heap.size w W → Calls Tryz.prog 43 #[.pointer (some ⟨p, 0, none⟩)] W fun e w' => e = .returned (.int .i64 all) ∧ Below W.heap.size W w') :
    Calls Tryz.prog 60 #[.pointer (some ⟨p, 0, none⟩), .agg #[.int .i64 l0, .int .i64 l1, .int .i64 l2, .int .i64 l3, .int .i64 l4], .int .i64 mine] w fun e w' => e = .returned (.int .i64 (bestGo ([l0, l1, l2, l3, l4].set me.toNat mine) all 5)) ∧ Below w.heap.size w w' := by
  have HM := Lib.hid hM
  have Ha := Lib.hid ha
  clear hM
  obtain ⟨L, hL⟩ : ∃ L, ([l0, l1, l2, l3, l4].set me.toNat mine) = L := ⟨_, rfl⟩
  rw [hL]
  have HL := Lib.hid hL
  clear hL
  obtain rfl | rfl | rfl | rfl | rfl : me = 0 ∨ me = 1 ∨ me = 2 ∨ me = 3 ∨ me = 4 := by omega
  all_goals
    have hA := blk_alloc h (.cells #[.int .i64 l0, .int .i64 l1, .int .i64 l2, .int .i64 l3, .int .i64 l4] 97)
    obtain ⟨⟨d0, -⟩, -⟩ := cells13 hA
    obtain ⟨e0, e1, e2, e3, e4, g0, g1, g2, g3, g4⟩ := cells5 (blk_new w (.cells #[.int .i64 l0, .int .i64 l1, .int .i64 l2, .int .i64 l3, .int .i64 l4] 97))
    clear h hA
    go_enter Tryz.func60, Tryz.ntmps60
    go_wp2_with fail
    clear d0 e0 e1 e2 e3 e4 g0 g1 g2 g3 g4
  all_goals
    refine (HM.out _ (box_below _ _)).mono ?_
    rintro e w1 ⟨rfl, hb1⟩
    obtain ⟨k0, k1, k2, k3, k4, -⟩ := cells5 (blk_keep hb1 (blk_new w _))
    have hB := below_then (box_below w _) hb1
    have HB := Lib.hid hB
    clear hB hb1
    obtain ⟨y0, y1, y2, y3, y4, q0, q1, q2, q3, q4, hLy⟩ : ∃ y0 y1 y2 y3 y4, w1.cell? ⟨w.heap.size, 0, none⟩ = some (.int .i64 y0) ∧ w1.cell? ⟨w.heap.size, 1, none⟩ = some (.int .i64 y1) ∧ w1.cell? ⟨w.heap.size, 2, none⟩ = some (.int .i64 y2) ∧ w1.cell? ⟨w.heap.size, 3, none⟩ = some (.int .i64 y3) ∧ w1.cell? ⟨w.heap.size, 4, none⟩ = some (.int .i64 y4) ∧ L = [y0, y1, y2, y3, y4] := ⟨_, _, _, _, _, k0, k1, k2, k3, k4, HL.out.symm⟩
    clear k0 k1 k2 k3 k4
    have hidx := fun (k : Nat) (hk : k < 5) (W : World) => hLy ▸ index5 y0 y1 y2 y3 y4 k hk W
    clear hLy HL
    go_wp2_with fail
    go_loop [8, 23] (fun a n => ∃ k : Nat, n = .int .i64 k ∧ k ≤ 5 ∧ a = .int .i64 (bestGo L all k)) (fun _ n => (5 - intOf n).toNat)
    case atStart => exact ⟨0, rfl, by omega, rfl⟩
    case round =>
      obtain ⟨k, rfl, hk, rfl⟩ := hrel
      by_cases h5 : k = 5
      · subst h5
        go_wp2_with fail
        go_ret
        exact ⟨rfl, HB.out⟩
      · have hk5 : k < 5 := by omega
        have hk6 : (k : Int) < 5 := by omega
        have hi := hidx k hk5
        have hstep : bestGo L all (k + 1) = if bestGo L all k < nth5 L k ∧ rulesB (geSet L (nth5 L k) 5) all = true then nth5 L k else bestGo L all k := rfl
        obtain ⟨n, hn⟩ : ∃ n, nth5 L k = n := ⟨_, rfl⟩
        obtain ⟨b, hb⟩ : ∃ b, bestGo L all k = b := ⟨_, rfl⟩
        rw [hn] at hi
        rw [hn, hb] at hstep
        rw [hb]
        clear hn hb
        have Hstep := Lib.hid hstep
        have Hidx := Lib.hid hidx
        clear hstep hidx
        go_wp2_with fail
        clear hi
        go_loop [11, 27] (fun a m => ∃ j : Nat, m = .int .i64 j ∧ j ≤ 5 ∧ a = .int .i64 (geSet L n j : Nat)) (fun _ m => (5 - intOf m).toNat)
        case atStart => exact ⟨0, rfl, by omega, rfl⟩
        case round =>
          obtain ⟨j, rfl, hj, rfl⟩ := hrel
          by_cases hj5 : j = 5
          · subst hj5
            have hs32 := geSet_lt L n 5
            have hR := fun W => srules_any (geSet L n 5) all W (by omega) Ha.out
            obtain ⟨r, hr⟩ : ∃ r, rulesB (geSet L n 5) all = r := ⟨_, rfl⟩
            have hR' : ∀ W, Calls Tryz.prog 107 #[.int .i64 (geSet L n 5 : Nat), .int .i64 all] W fun e w' => e = .returned (.bool r) ∧ W = w' := by rw [← hr]; exact hR
            have HR := Lib.hid hR'
            rw [hr] at Hstep
            clear hR hR' hr hs32
            generalize geSet L n 5 = s5 at *
            by_cases hbn : b < n
            · cases r
              · go_wp2_with fail
                refine (HR.out _).mono ?_
                rintro e w2 ⟨rfl, rfl⟩
                go_wp2_with fail
                refine ⟨⟨k + 1, by simp, by omega, ?_⟩, ?_⟩
                · rw [Hstep.out]; simp
                · simp only [intOf]; omega
              · go_wp2_with fail
                refine (HR.out _).mono ?_
                rintro e w2 ⟨rfl, rfl⟩
                go_wp2_with fail
                refine ⟨⟨k + 1, by simp, by omega, ?_⟩, ?_⟩
                · rw [Hstep.out]; simp [hbn]
                · simp only [intOf]; omega
            · go_wp2_with fail
              refine ⟨⟨k + 1, by simp, by omega, ?_⟩, ?_⟩
              · rw [Hstep.out]; simp [hbn]
              · simp only [intOf]; omega
          · have hj4 : j < 5 := by omega
            have hj6 : (j : Int) < 5 := by omega
            have hji := Hidx.out j hj4
            have hgs : geSet L n (j + 1) = if n ≤ nth5 L j then geSet L n j ||| 2 ^ j else geSet L n j := rfl
            have hglt := geSet_lt L n j
            have hg256 : geSet L n j < 256 := Nat.lt_of_lt_of_le hglt (Nat.le_of_lt (Nat.lt_of_lt_of_le (Nat.pow_lt_pow_right (by omega) hj4) (by omega)))
            have hW := fun W => swith_any (geSet L n j) j W hg256 hj4
            obtain ⟨z, hz⟩ : ∃ z, nth5 L j = z := ⟨_, rfl⟩
            rw [hz] at hji hgs
            have Hgs := Lib.hid hgs
            have HW := Lib.hid hW
            clear hz hgs hglt hg256 hW
            generalize geSet L n j = sj at *
            by_cases hnz : n ≤ z
            · go_wp2_with fail
              refine (HW.out _).mono ?_
              rintro e w2 ⟨rfl, rfl⟩
              go_wp2_with fail
              refine ⟨⟨j + 1, by simp, by omega, ?_⟩, ?_⟩
              · rw [Hgs.out, if_pos hnz]
              · simp only [intOf]; omega
            · go_wp2_with fail
              refine ⟨⟨j + 1, by simp, by omega, ?_⟩, ?_⟩
              · rw [Hgs.out, if_neg hnz]
              · simp only [intOf]; omega
end Go.Proofs.YtahagecdebadfaaGreat

namespace Go.Proofs.YtahagecdebadfaaGreat
open Go.RowKit Go.Shelf
attribute [local go_sem] Oper.semAt_some

/-- The last k of len places, the last one first. -/
def downTo (len k : Nat) : List Nat := (List.range k).map fun q => len - 1 - q
theorem downTo_succ (len k : Nat) : downTo len (k + 1) = downTo len k ++ [len - 1 - k] := by simp [downTo, List.range_succ]

theorem backward_in (n : Nat) (A : Option Addr) (k c : Nat) (w : World) :
    CallsIn Fence.wide n Tryz.prog 138 #[.slice A k c] w fun e w' => e = .returned (.func (.func 146) #[] #[.pointer (some ⟨w.heap.size, 0, none⟩)]) ∧ w' = w.alloc (.cells #[.slice A k c] 123) := by
  refine callsIn_of_wp Tryz.func138 rfl trivial ?_ rfl
  simp only [Tryz.ntmps138, List.size_toArray, List.length_cons, List.length_nil, Nat.reduceAdd, Nat.reduceSub, Array.replicate_succ, Array.replicate_zero, List.push_toArray, List.append_toArray, List.nil_append, List.cons_append]
  gi_wp2
  go_ret
  exact ⟨rfl, rfl⟩

set_option maxRecDepth 100000 in
set_option maxHeartbeats 2000000 in
theorem backward1_in (n : Nat) (hn : 1 ≤ n) (l Bg n₀ pb po len pc : Nat) (fv : Nat → Value) (hpc : len ≤ pc) (hpm : pc ≤ maxLen) (hB0 : Bg < n₀) (hp0 : pb < n₀) (J Jx : List (Fin len) → World → Prop)
    (hY : ∀ pre x W, J pre W → pre.length < len → YieldAt Fence.wide (n - 1) Tryz.prog l #[.int .i64 x.1, fv x.1] W fun e W' =>
      (e = .returned (.bool true) ∧ J (pre ++ [x]) W' ∧ Below n₀ W W') ∨ (e = .returned (.bool false) ∧ Jx (pre ++ [x]) W'))
    (W : World) (hJ : AbidesFrom W.heap.size J) (_hn₀ : n₀ ≤ W.heap.size) (hBg : W.cell? ⟨Bg, 0, none⟩ = some (.slice (some ⟨pb, po, none⟩) len pc)) (hc : ∀ i, i < len → W.cell? ⟨pb, po + i, none⟩ = some (fv i)) (h0 : J [] W) :
    CallsIn Fence.wide n Tryz.prog 146 #[.func (.yield l) #[] #[], .pointer (some ⟨Bg, 0, none⟩)] W fun e W' => (∃ v, e = .returned v) ∧
      ((∃ ys : List (Fin len), ys.map (·.1) = downTo len len ∧ J ys W') ∨ (∃ pre : List (Fin len), (∃ k, k ≤ len ∧ pre.map (·.1) = downTo len k) ∧ Jx pre W')) := by
  unfold maxLen at hpm
  refine callsIn_of_wp Tryz.func146 rfl trivial ?_ rfl
  simp only [Tryz.ntmps146, List.size_toArray, List.length_cons, List.length_nil, Nat.reduceAdd, Nat.reduceSub, Array.replicate_succ, Array.replicate_zero, List.push_toArray, List.append_toArray, List.nil_append, List.cons_append]
  have HC := Lib.hid hc
  have HY := Lib.hid hY
  have HJ := Lib.hid hJ
  clear hc hY hJ
  gi_wp2
  gi_loopw [3] (fun i wr => ∃ (k : Nat) (pre : List (Fin len)), k ≤ len ∧ i = .int .i64 ((len : Int) - 1 - k) ∧ pre.map (·.1) = downTo len k ∧ J pre wr ∧ Below n₀ W wr)
    (fun i _ => (intOf i + 1).toNat)
  case atStart => exact ⟨0, [], Nat.zero_le _, by simp, by simp [downTo], h0, Below.refl _ _⟩
  case round =>
    obtain ⟨k, pre, hk, rfl, hpre, hJs, hnx⟩ := hrel
    have hsz := hnx.size
    have hbg : wr.cell? ⟨Bg, 0, none⟩ = some (.slice (some ⟨pb, po, none⟩) len pc) := (hnx.cell (p := ⟨Bg, 0, none⟩) hB0).trans hBg
    have Hpre := Lib.hid hpre
    clear hpre
    by_cases hlt' : k < len
    · have hpl : pre.length < len := by
        have := congrArg List.length Hpre.out
        simp [downTo] at this
        omega
      have hx : len - 1 - k < len := by omega
      obtain ⟨i, hi⟩ : ∃ i, len - 1 - k = i := ⟨_, rfl⟩
      have hii : (len : Int) - 1 - k = i := by omega
      have hil : i < len := by omega
      have hil2 : (i : Int) < (len : Int) := by omega
      have hcv : wr.cell? ⟨pb, po + i, none⟩ = some (fv i) := (hnx.cell (p := ⟨pb, po + i, none⟩) hp0).trans (HC.out i hil)
      obtain ⟨fn, tmps, assign, body, hy, hR⟩ := HY.out pre ⟨i, hil⟩ wr hJs hpl
      dsimp only at hy
      have HR := Lib.hid hR
      have Hi := Lib.hid hi
      rw [hii]
      clear hR hi hii hx
      gi_wp2
      refine HR.out.mono ?_
      rintro e W3 (⟨rfl, hJ3, hk3⟩ | ⟨rfl, hJx3⟩)
      · have hdn : (pre ++ [⟨i, hil⟩] : List (Fin len)).map (·.1) = downTo len (k + 1) := by rw [downTo_succ, List.map_append, Hpre.out, Hi.out]; rfl
        have Hdn := Lib.hid hdn
        clear hdn
        gi_wp2
        go_roundw
        case rel =>
          have hi' := Hi.out
          have e : Value.int .i64 ((i : Int) - 1) = .int .i64 ((len : Int) - 1 - ((k + 1 : Nat) : Int)) := congrArg (Value.int .i64) (by omega)
          exact ⟨k + 1, pre ++ [⟨i, hil⟩], hlt', e, Hdn.out, hJ3, hnx.trans hk3⟩
        case measure => simp [intOf]
      · gi_wp2
        refine bodyPost_ret (results_none rfl _ _ _) rfl ?_
        exact ⟨⟨_, rfl⟩, .inr ⟨pre ++ [⟨i, hil⟩], ⟨k + 1, hlt', by rw [downTo_succ, List.map_append, Hpre.out, Hi.out]; rfl⟩, hJx3⟩⟩
    · obtain rfl : k = len := by omega
      gi_wp2
      go_end0
      exact ⟨⟨_, rfl⟩, .inl ⟨pre, Hpre.out, hJs⟩⟩
end Go.Proofs.YtahagecdebadfaaGreat

namespace Go.Proofs.YtahagecdebadfaaGreat

theorem okSeq_right : ∀ {t : Int} {l : List Ent}, okSeq t l = true → ∀ e ∈ l, rightB e = true
  | _, [], _, e, h => by simp at h
  | _, x :: l, hk, e, h => by
    simp only [okSeq, Bool.and_eq_true] at hk
    rcases List.mem_cons.1 h with rfl | h
    · exact hk.1.1
    · exact okSeq_right hk.2 e h
theorem right_pos {e : Ent} (h : rightB e = true) : 1 ≤ e.term := by
  simp only [rightB, Bool.and_eq_true, decide_eq_true_eq] at h
  exact h.1.1.1
theorem Lg.termAt_get {g : Lg} (i : Nat) (hi : i < g.ents.length) : g.termAt (g.a + i + 1) = g.ents[i].term := by
  unfold Lg.termAt
  rw [if_neg (by omega), if_pos (by unfold Lg.top; omega)]
  have : (g.a + (i : Int) + 1 - g.a - 1).toNat = i := by omega
  rw [this, List.getElem?_eq_getElem hi]; rfl
theorem Lg.Good.term_pos {g : Lg} (h : g.Good) {n : Int} (h1 : g.a ≤ n) (h2 : n ≤ g.top) : 0 ≤ g.termAt n := by
  by_cases hn : n = g.a
  · subst hn; rw [Lg.Good.termAt_ground]; exact h.t0
  · obtain ⟨i, rfl⟩ : ∃ i : Nat, n = g.a + i + 1 := ⟨(n - g.a - 1).toNat, by omega⟩
    have hi : i < g.ents.length := by unfold Lg.top at h2; omega
    rw [Lg.termAt_get i hi]
    have := right_pos (okSeq_right h.okEnts _ (List.getElem_mem hi))
    omega
theorem skipN_at (g : Lg) : ∀ (at_ : Int) (P : List Ent) (i : Nat), i < skipN g at_ P → ∃ h : i < P.length, g.termAt (at_ + i + 1) = P[i].term
  | _, [], i, h => by simp [skipN] at h
  | at_, e :: l, i, h => by
    simp only [skipN] at h
    split at h
    · rename_i hc
      cases i with
      | zero => exact ⟨by simp, by simpa using hc.2⟩
      | succ i =>
        obtain ⟨h1, h2⟩ := skipN_at g (at_ + 1) l i (by omega)
        refine ⟨by simpa using h1, ?_⟩
        have e : at_ + ((i + 1 : Nat) : Int) + 1 = at_ + 1 + i + 1 := by omega
        rw [e, h2]; rfl
    · omega
theorem skipN_all (g : Lg) : ∀ (at_ : Int) (P : List Ent), (∀ i (hi : i < P.length), 0 ≤ P[i].term ∧ g.termAt (at_ + i + 1) = P[i].term) → skipN g at_ P = P.length
  | _, [], _ => rfl
  | at_, e :: l, h => by
    have h0 := h 0 (by simp)
    simp only [List.getElem_cons_zero, Int.natCast_zero, Int.add_zero] at h0
    simp only [skipN]
    rw [if_pos h0, skipN_all g (at_ + 1) l fun i hi => ?_]
    · simp
    · have h1 := h (i + 1) (by simpa using hi)
      have e : at_ + ((i + 1 : Nat) : Int) + 1 = at_ + 1 + i + 1 := by omega
      rw [e] at h1
      simpa using h1

/-- Two logs over the same floor at 0. -/
structure Two (G H : Lg) : Prop where
  gG : G.Good
  hG : H.Good
  ga : G.a = 0
  ha : H.a = 0
  gt : G.t = 0
  ht : H.t = 0

section
variable {G H : Lg}
theorem Two.gtop (h : Two G H) : G.top = G.ents.length := by unfold Lg.top; rw [h.ga]; omega
theorem Two.htop (h : Two G H) : H.top = H.ents.length := by unfold Lg.top; rw [h.ha]; omega
theorem Two.gterm (h : Two G H) (i : Nat) (hi : i < G.ents.length) : G.termAt ((i : Int) + 1) = G.ents[i].term := by
  have := Lg.termAt_get (g := G) i hi
  rwa [h.ga, Int.zero_add] at this
theorem Two.hterm (h : Two G H) (i : Nat) (hi : i < H.ents.length) : H.termAt ((i : Int) + 1) = H.ents[i].term := by
  have := Lg.termAt_get (g := H) i hi
  rwa [h.ha, Int.zero_add] at this
theorem Two.glast (h : Two G H) (n : Nat) (hn : n ≤ G.ents.length) : lastT 0 (G.ents.take n) = G.termAt n := by
  have := Lg.Good.uptoTerm (g := G) (n := n) (by rw [h.ga]; omega) (by rw [h.gtop]; omega)
  rw [h.ga, h.gt] at this
  simpa using this
theorem Two.hlast (h : Two G H) (n : Nat) (hn : n ≤ H.ents.length) : lastT 0 (H.ents.take n) = H.termAt n := by
  have := Lg.Good.uptoTerm (g := H) (n := n) (by rw [h.ha]; omega) (by rw [h.htop]; omega)
  rw [h.ha, h.ht] at this
  simpa using this

/-- Behind a place at which both have one term: what the other one has there joins. -/
theorem Two.go (h : Two G H) (n k0 : Nat) (hn : n ≤ G.ents.length) (hn' : n ≤ H.ents.length) (hT : G.termAt n = H.termAt n) (P : List Ent) (hP : P = (H.ents.drop n).take k0) :
    ∃ k : Nat, (∀ i, i < k → i < P.length ∧ G.termAt ((n + i : Nat) + 1 : Int) = H.termAt ((n + i : Nat) + 1 : Int)) ∧ n + k ≤ G.ents.length ∧
      ((k = P.length ∧ G.joinGo n P = ⟨some G.ents, true, n + P.length, 0, 0⟩) ∨
       (k < P.length ∧ G.joinGo n P = ⟨some (G.ents.take (n + k) ++ P.drop k), true, n + P.length, n + k + 1, 0⟩ ∧ okSeq 0 (G.ents.take (n + k) ++ P.drop k) = true)) := by
  have hPl : P.length ≤ H.ents.length - n := by rw [hP]; simp; omega
  have hPi : ∀ i (hi : i < P.length), P[i] = H.ents[n + i]'(by omega) := by
    intro i hi
    subst hP
    rw [List.getElem_take, List.getElem_drop]
  have hPd : ∀ q, P.drop q = (H.ents.drop (n + q)).take (k0 - q) := by
    intro q; subst hP; rw [List.drop_take, List.drop_drop]
  have hk := skipN_le G n P
  have hat := skipN_at G n P
  have hin := skipN_in G n P (by rw [h.ga]; omega) (by rw [h.gtop]; omega)
  have hall : ∀ i, i < skipN G n P → i < P.length ∧ G.termAt ((n + i : Nat) + 1 : Int) = H.termAt ((n + i : Nat) + 1 : Int) := by
    intro i hi
    obtain ⟨h1, h2⟩ := hat i hi
    refine ⟨h1, ?_⟩
    rw [h.hterm (n + i) (by omega), ← hPi i h1, ← h2]
    congr 1
  refine ⟨skipN G n P, hall, by rw [h.gtop] at hin; omega, ?_⟩
  rcases Nat.lt_or_ge (skipN G n P) P.length with hlt | hge
  · right
    have hnk : n + skipN G n P ≤ G.ents.length := by rw [h.gtop] at hin; omega
    have hTk : G.termAt ((n + skipN G n P : Nat) : Int) = H.termAt ((n + skipN G n P : Nat) : Int) := by
      rcases Nat.eq_zero_or_pos (skipN G n P) with h0 | h0
      · rw [h0]; simpa using hT
      · have := (hall (skipN G n P - 1) (by omega)).2
        have e : ((n + (skipN G n P - 1) : Nat) + 1 : Int) = ((n + skipN G n P : Nat) : Int) := by omega
        rwa [e] at this
    have hok : okSeq (G.termAt ((n + skipN G n P : Nat) : Int)) (P.drop (skipN G n P)) = true := by
      rw [hTk, ← h.hlast _ (by omega)]
      have h1 := h.hG.okEnts
      rw [h.ht, ← List.take_append_drop (n + skipN G n P) H.ents, okSeq_append, Bool.and_eq_true] at h1
      rw [hPd]
      exact okSeq_take _ h1.2
    have hlen : (n : Int) + P.length - G.a ≤ 4096 := by have := h.hG.len; rw [h.ga]; omega
    have e1 : (n : Int) + (skipN G n P : Int) = ((n + skipN G n P : Nat) : Int) := by omega
    refine ⟨hlt, ?_, ?_⟩
    · unfold Lg.joinGo
      simp only []
      rw [if_neg (by omega), if_pos ⟨by rw [e1]; exact hok, hlen⟩, e1, h.ga, Int.sub_zero, Int.toNat_natCast]
    · rw [okSeq_append, h.glast _ hnk, hok, Bool.and_true]
      have := okSeq_take (n + skipN G n P) h.gG.okEnts
      rwa [h.gt] at this
  · left
    refine ⟨by omega, ?_⟩
    unfold Lg.joinGo
    simp only []
    rw [if_pos hge]

/-- Entries of which a log can be made over the floor. -/
theorem Two.make (h : Two G H) {es : List Ent} (hok : okSeq 0 es = true) (hl : es.length ≤ 4096) (_hm : G.m = 7) :
    Two (Lg.of G.a G.t G.m es) H ∧ (Lg.of G.a G.t G.m es).ents = es := by
  have h1 := h.gG.floor.of (es := es) (by rw [h.gt]; exact hok) hl
  exact ⟨⟨h1.1, h.hG, by rw [h1.2.2.2.1, h.ga], h.ha, by rw [h1.2.2.2.2.1, h.gt], h.ht⟩, h1.2.1⟩

/-- Joined behind a place up to which both are the same. -/
theorem Two.joined (h : Two G H) (hm : G.m = 7) (n k0 : Nat) (hn : n ≤ G.ents.length) (hn' : n ≤ H.ents.length) (hpre : G.ents.take n = H.ents.take n) (P : List Ent) (hP : P = (H.ents.drop n).take k0) :
    ∃ (es : List Ent) (fr : Int) (X : Lg), G.join n (H.termAt n) P = ⟨some es, true, n + P.length, fr, 0⟩ ∧ X = Lg.of G.a G.t G.m es ∧ X.Good ∧ 0 ≤ fr ∧ fr ≤ n + P.length ∧
      (∀ i : Nat, i ≤ n + P.length → X.termAt i = H.termAt i) ∧
      (0 < fr → X.slice fr (n + P.length) = H.slice fr (n + P.length - fr + 1)) ∧
      X.join n (H.termAt n) P = ⟨some es, true, n + P.length, 0, 0⟩ ∧ (fr = 0 ∨ X.top = n + P.length) ∧ X.ents = es := by
  have hT : ∀ i : Nat, i ≤ n → G.termAt i = H.termAt i := by
    intro i hi
    rw [← h.glast i (by omega), ← h.hlast i (by omega)]
    have e : ∀ l : List Ent, l.take i = (l.take n).take i := fun l => by rw [List.take_take]; congr 1; omega
    rw [e G.ents, e H.ents, hpre]
  have hPl : P.length ≤ H.ents.length - n := by rw [hP]; simp; omega
  have hPi : ∀ i (hi : i < P.length), P[i] = H.ents[n + i]'(by omega) := by
    intro i hi
    subst hP
    rw [List.getElem_take, List.getElem_drop]
  have hpos : ∀ i (hi : i < P.length), 0 ≤ P[i].term := fun i hi => by
    have := right_pos (okSeq_right h.hG.okEnts P[i] (by rw [hPi i hi]; exact List.getElem_mem _))
    omega
  have hTn := h.hG.term_pos (n := n) (by rw [h.ha]; omega) (by rw [h.htop]; omega)
  obtain ⟨k, hk1, hk2, hk3⟩ := h.go n k0 hn hn' (hT n (Nat.le_refl _)) P hP
  have hjoin : ∀ X : Lg, X.a = 0 → X.termAt n = H.termAt n → X.join n (H.termAt n) P = X.joinGo n P := by
    intro X hX hXn
    unfold Lg.join
    rw [if_pos (by rw [hX]; omega), if_neg (by rw [hXn]; omega)]
  have hGT : ∀ i : Nat, i ≤ n + k → G.termAt i = H.termAt i := by
    intro i hi
    by_cases hin : i ≤ n
    · exact hT i hin
    · obtain ⟨j, rfl⟩ : ∃ j, i = n + j + 1 := ⟨i - n - 1, by omega⟩
      have := (hk1 j (by omega)).2
      simpa using this
  -- what is the same for both ways
  have fin : ∀ (es : List Ent) (X : Lg), X = Lg.of G.a G.t G.m es → X.Good → X.a = 0 → X.ents = es → (∀ i : Nat, i ≤ n + P.length → X.termAt i = H.termAt i) → X.join n (H.termAt n) P = ⟨some es, true, n + P.length, 0, 0⟩ := by
    intro es X _ _ hXa hXe hall
    rw [hjoin X hXa (hall n (by omega))]
    have hs : skipN X n P = P.length := by
      refine skipN_all X n P fun i hi => ⟨hpos i hi, ?_⟩
      have := hall (n + i + 1) (by omega)
      have e : ((n + i + 1 : Nat) : Int) = (n : Int) + i + 1 := by omega
      rw [e] at this
      rw [this, hPi i hi, ← h.hterm (n + i) (by omega)]
      congr 1
    unfold Lg.joinGo
    simp only []
    rw [hs, if_pos (Nat.le_refl _), hXe]
  rcases hk3 with ⟨hk, hgo⟩ | ⟨hk, hgo, hok⟩
  · obtain ⟨hX, hXe⟩ := h.make (es := G.ents) (by have := h.gG.okEnts; rwa [h.gt] at this) h.gG.len hm
    have hG : G = Lg.of G.a G.t G.m G.ents := h.gG.eq_of
    refine ⟨G.ents, 0, G, ?_, hG, h.gG, Int.le_refl _, by omega, fun i hi => hGT i (by omega), fun h => absurd h (by decide), ?_, .inl rfl, rfl⟩
    · rw [hjoin G h.ga (hT n (Nat.le_refl _)), hgo]
    · exact fin _ G hG h.gG h.ga rfl fun i hi => hGT i (by omega)
  · have hlen : (G.ents.take (n + k) ++ P.drop k).length = n + P.length := by simp; omega
    obtain ⟨hX, hXe⟩ := h.make hok (by rw [hlen]; have := h.hG.len; omega) hm
    obtain ⟨X, hXd⟩ : ∃ X, X = Lg.of G.a G.t G.m (G.ents.take (n + k) ++ P.drop k) := ⟨_, rfl⟩
    rw [← hXd] at hX hXe
    have hXT : ∀ i : Nat, i ≤ n + P.length → X.termAt i = H.termAt i := by
      intro i hi
      by_cases hik : i ≤ n + k
      · rw [← hGT i hik, ← hX.glast i (by rw [hXe]; omega), ← h.glast i (by omega), hXe]
        congr 1
        rw [List.take_append_of_le_length (by simp; omega), List.take_take]
        congr 1; omega
      · obtain ⟨j, rfl⟩ : ∃ j, i = n + j + 1 := ⟨i - n - 1, by omega⟩
        have e1 : ((n + j + 1 : Nat) : Int) = ((n + j : Nat) : Int) + 1 := by omega
        rw [e1, hX.gterm (n + j) (by rw [hXe]; omega), h.hterm (n + j) (by omega)]
        congr 1
        have : X.ents[n + j]'(by rw [hXe]; omega) = (G.ents.take (n + k) ++ P.drop k)[n + j]'(by omega) := by simp only [hXe]
        rw [this, List.getElem_append_right (by simp; omega), List.getElem_drop, hPi _ (by simp; omega)]
        congr 1
        simp; omega
    refine ⟨_, (n : Int) + k + 1, X, ?_, hXd, hX.gG, by omega, by omega, hXT, fun _ => ?_, ?_, .inr ?_, hXe⟩
    · rw [hjoin G h.ga (hT n (Nat.le_refl _)), hgo]
    · have hXt := hX.gtop
      have e1 : X.slice ((n : Int) + k + 1) (n + P.length) = P.drop k := by
        unfold Lg.slice
        rw [if_pos ⟨by rw [hX.ga]; omega, by rw [hXt, hXe, hlen]; omega⟩, hX.ga, hXe]
        have e : ((n : Int) + k + 1 - 0 - 1).toNat = (G.ents.take (n + k)).length := by simp; omega
        rw [e, List.drop_left, List.take_of_length_le (by simp; omega)]
      have e2 : H.slice ((n : Int) + k + 1) (n + P.length - ((n : Int) + k + 1) + 1) = P.drop k := by
        unfold Lg.slice
        rw [if_pos ⟨by rw [h.ha]; omega, by rw [h.htop]; omega⟩, h.ha]
        have e : ((n : Int) + k + 1 - 0 - 1).toNat = n + k := by omega
        have e' : ((n : Int) + P.length - ((n : Int) + k + 1) + 1).toNat = P.length - k := by omega
        rw [e, e']
        conv => rhs; rw [hP]
        rw [List.drop_take, List.drop_drop]
        have hl : P.length = min k0 (H.ents.length - n) := by rw [hP]; simp
        apply List.ext_getElem
        · simp; omega
        · intro i h1 h2; simp
      rw [e1, e2]
    · exact fin _ X hXd hX.gG hX.ga hXe hXT
    · rw [hX.gtop, hXe, hlen]; simp

/-- Where a place lies: at the floor, in a run, above the top. -/
def Mark (g : Lg) (n : Int) (k : Nat) : Prop :=
  (k = 0 ∧ n = g.a) ∨ (∃ j, ∃ hj : j < g.rs.length, k = j + 1 ∧ g.rs[j].1 ≤ n ∧ n ≤ g.rs[j].1 + g.rs[j].2.length - 1) ∨ (k = g.rs.length + 1 ∧ g.top < n)
theorem Lg.Good.marked {g : Lg} (h : g.Good) {n : Int} (hn : g.a ≤ n) : ∃ k, k ≤ g.rs.length + 1 ∧ Mark g n k := by
  by_cases h1 : n = g.a
  · exact ⟨0, by omega, .inl ⟨rfl, h1⟩⟩
  · by_cases h2 : g.top < n
    · exact ⟨_, Nat.le_refl _, .inr (.inr ⟨rfl, h2⟩)⟩
    · unfold Lg.top Lg.ents at h2
      obtain ⟨j, hj, a1, a2⟩ := h.chain.find n (by omega) (by omega)
      exact ⟨j + 1, by omega, .inr (.inl ⟨j, hj, rfl, a1, a2⟩)⟩
theorem Lg.Good.gap {g : Lg} (h : g.Good) : ∀ (d i : Nat) (hj : i + d + 1 < g.rs.length), g.rs[i].1 + g.rs[i].2.length ≤ g.rs[i + d + 1].1
  | 0, i, hj => Int.le_of_eq (h.next i hj).symm
  | d + 1, i, hj => by
    have h1 := h.gap d i (by omega)
    have h2 := h.next (i + d + 1) hj
    have h3 : g.rs[i + (d + 1) + 1].1 = g.rs[i + d + 1].1 + g.rs[i + d + 1].2.length := h2
    omega
theorem Mark.back {g : Lg} (h : g.Good) {n : Int} {k : Nat} (hk : Mark g n (k + 1)) : Mark g (g.back n) k ∧ g.a ≤ g.back n ∧ g.back n < n := by
  have hle : ∀ j (hj : j < g.rs.length), g.rs[j].1 + g.rs[j].2.length - 1 ≤ g.top := fun j hj => by
    have h1 := (h.chain.at j hj).1
    have h2 := len_le_at g.rs j hj
    unfold Lg.top Lg.ents; omega
  rcases hk with ⟨h0, _⟩ | ⟨j, hj, e, h1, h2⟩ | ⟨e, h1⟩
  · omega
  · obtain rfl : k = j := by omega
    have hb : g.back n = g.rs[k].1 - 1 := by
      unfold Lg.back
      rw [if_neg (by have := hle k hj; omega), runStart_some k hj (fun i hi hik => ?_) (by simp [Part.has, h1, h2])]
      have := h.gap (k - i - 1) i (by omega)
      have e : g.rs[i + (k - i - 1) + 1] = g.rs[k] := by congr 1; omega
      rw [e] at this
      simp [Part.has]
      omega
    have ha := (h.chain.at k hj).1
    rw [hb]
    refine ⟨?_, by omega, by omega⟩
    cases k with
    | zero => exact .inl ⟨rfl, by have := h.first hj; omega⟩
    | succ j =>
      have h3 := h.next j hj
      have h4 : 0 < g.rs[j].2.length := List.length_pos_iff.2 (h.chain.at j (by omega)).2.1
      exact .inr (.inl ⟨j, by omega, rfl, by omega, by omega⟩)
  · obtain rfl : k = g.rs.length := by omega
    have hb : g.back n = g.top := by unfold Lg.back; rw [if_pos h1]
    have ht : g.a ≤ g.top := by unfold Lg.top; omega
    rw [hb]
    refine ⟨?_, ht, h1⟩
    rcases Nat.eq_zero_or_pos g.rs.length with h0 | h0
    · have hr : g.rs = [] := List.eq_nil_of_length_eq_zero h0
      exact .inl ⟨h0, by simp [Lg.top, Lg.ents, hr, allOf]⟩
    · have h3 := h.fin (g.rs.length - 1) (by omega)
      have h4 : 0 < g.rs[g.rs.length - 1].2.length := List.length_pos_iff.2 (h.chain.at (g.rs.length - 1) (by omega)).2.1
      exact .inr (.inl ⟨g.rs.length - 1, by omega, by omega, by unfold Lg.top; omega, by unfold Lg.top; omega⟩)

/-- A step back: it joins, or goes back to the end of the run ahead. -/
theorem Two.step (h : Two G H) (n : Nat) (hn : n ≤ H.ents.length) (k : Nat) (hk : Mark G n k) :
    (∃ es fin fr, G.join n (H.termAt n) (H.slice (n + 1) 4096) = ⟨some es, true, fin, fr, 0⟩) ∨
    (∃ (j m : Nat), k = j + 1 ∧ m < n ∧ G.join n (H.termAt n) (H.slice (n + 1) 4096) = ⟨none, false, 0, 0, m⟩ ∧ Mark G m j) := by
  have hj : G.join n (H.termAt n) (H.slice (n + 1) 4096) = if G.termAt n < 0 ∨ G.termAt n ≠ H.termAt n then ⟨none, false, 0, 0, G.back n⟩ else G.joinGo n (H.slice (n + 1) 4096) := by
    conv => lhs; unfold Lg.join
    rw [if_pos (by rw [h.ga]; omega)]
  by_cases hT : G.termAt n < 0 ∨ G.termAt n ≠ H.termAt n
  · right
    rw [if_pos hT] at hj
    cases k with
    | zero =>
      exfalso
      rcases hk with ⟨_, e⟩ | ⟨j, _, e, _⟩ | ⟨e, _⟩
      · rw [e, Lg.Good.termAt_ground, h.gt] at hT
        have e2 : G.a = H.a := by rw [h.ga, h.ha]
        rw [e2, Lg.Good.termAt_ground, h.ht] at hT
        omega
      · omega
      · omega
    | succ j =>
      obtain ⟨h1, h2, h3⟩ := hk.back h.gG
      rw [h.ga] at h2
      have e : ((G.back n).toNat : Int) = G.back n := by omega
      refine ⟨j, (G.back n).toNat, rfl, by omega, ?_, by rw [e]; exact h1⟩
      rw [hj, e]
  · left
    rw [if_neg hT] at hj
    have hg : n ≤ G.ents.length := by
      have := (Lg.termAt_in (g := G) (n := n) (by omega)).2
      rw [h.gtop] at this; omega
    have hP : H.slice (n + 1) 4096 = (H.ents.drop n).take 4096 := by
      unfold Lg.slice
      by_cases hlt : n < H.ents.length
      · rw [if_pos ⟨by rw [h.ha]; omega, by rw [h.htop]; omega⟩, h.ha]
        congr 1
        congr 1
        omega
      · rw [if_neg (by rw [h.htop]; omega), List.drop_eq_nil_of_le (by omega)]; rfl
    obtain ⟨k', -, -, hk3⟩ := h.go n 4096 hg hn (by omega) _ hP
    rw [hj]
    rcases hk3 with ⟨-, e⟩ | ⟨-, e, -⟩
    · exact ⟨_, _, _, e⟩
    · exact ⟨_, _, _, e⟩
end
end Go.Proofs.YtahagecdebadfaaGreat
