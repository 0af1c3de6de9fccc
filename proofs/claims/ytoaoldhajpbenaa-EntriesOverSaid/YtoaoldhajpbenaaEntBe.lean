/- 'Over' within a run. No statement is proved here. -/
import Derived.Test.YtoaoldhajpbenaaEntBd
import Derived.Deep.DeepCutAuto
import Derived.Deep.CutBlock
namespace Go.Proofs.Ytoaoldhajpbenaa
open Go.RowKit
attribute [local go_sem ↓] Go.wp_at_zero Go.wp_at_succ

/-- What the new log's row holds ahead of the last append. -/
def OverMid (S : Nat → Prop) (w : World) (n T M : Int) (rs' : List (Int × List Ent)) (v : Value) (wx : World) : Prop :=
  ∃ A cap vs, v = .slice A (rs'.length + 1) cap ∧ wx.ownsRow w.heap.size 82 1 v (rs'.length + 1) (.iface 97 (.agg #[.int .i64 n, .int .i64 T, .int .i64 M]) :: vs) ∧
    PartCells (fun b => S b ∧ b < w.heap.size) wx (rs'.map fun r : Int × List Ent => Part.run r.1 r.2) vs ∧ Below w.heap.size w wx

set_option maxRecDepth 100000 in
set_option maxHeartbeats 2000000 in
theorem over_run {S : Nat → Prop} (p : Value) (g : Lg) (n : Int) (w : World) (h : LogAt S w p g.parts) (hg : g.Good) (hn1 : g.a < n) (hn2 : n ≤ g.top) (hn3 : n ≤ 1099511627776) :
    Calls Try.prog 20 #[p, .int .i64 n] w fun e w' => ∃ q, e = .returned (.tuple #[.pointer (some q), .int .i64 0]) ∧ LogAt (fun b => S b ∨ w.heap.size ≤ b) w' (.pointer (some q)) (g.over n).parts ∧ Below w.heap.size w w' := by
  have ga0 := hg.a0
  have Hf := Lib.hid (find_lg p g n w h hg)
  have Hmem := Lib.hid fun W (hb : Below w.heap.size w W) => members_any p g n ⟨by omega, by omega⟩ W (h.keep hb) hg
  have h' := h.mono (T := fun b => S b ∧ b < w.heap.size) fun b h1 h2 => ⟨h2, h1⟩
  obtain ⟨b, sv, vs, rfl, -, hcell, hrow, hpc⟩ := h'
  obtain ⟨pb, po, pc, rfl, hpn, hpcm, -, hlt, hcells⟩ := hrow.form (by simp [Lg.parts])
  have hple := hg.parts_le
  have hplen := g.parts_length
  obtain ⟨i0, hi, hz0, hz1, hz2⟩ := info_parts infoPart
  have Hpc := Lib.hid hpc
  have Hc := Lib.hid hcells
  have hcap : pc ≤ 9223372036854775807 := hpcm
  obtain ⟨len, hlen⟩ : ∃ len, g.parts.length = len := ⟨_, rfl⟩
  rw [hlen] at hcell hpn hple
  have Hlen := Lib.hid hlen
  have Hplen := Lib.hid hplen
  clear hcells hrow hpc hplen hlen h
  go_enter Try.func20, Try.ntmps20
  go_wp2_with fail
  refine Hf.out.mono ?_
  rintro e w1 ⟨hp, hb⟩
  rcases hp with ⟨i, hi', v, hh, -, hv, rfl⟩ | ⟨hno, rfl⟩
  rotate_left
  · have := hg.noPart fun j hj => hno j hj hj
    omega
  rcases hg.part hi' hh with ⟨-, h0⟩ | ⟨j, hj, hij, -, -, h3, h4, h5, hget⟩
  · omega
  have hover := hg.over_run hj h3 h4 hn3
  have hterm := hg.termAt_run hj hn1 hn2 h3 h4 hget
  have hv' := Hpc.out.at i hi'
  obtain ⟨k1, k2, k3, k4⟩ := hg.run_ok j hj
  have hpi : g.parts[i] = .run g.rs[j].1 g.rs[j].2 := by subst hij; exact g.parts_succ j hj
  rw [hpi] at hv
  obtain ⟨sl, rfl, cs, hrl, hec⟩ := hv
  obtain ⟨rb, ro, rc, rfl, hrn, hrc, -, hrb, hrcell⟩ := hrl.form k3
  have hold : PartV (fun b => S b ∧ b < w.heap.size) w (.iface 92 (.agg #[.int .i64 g.rs[j].1, .slice (some ⟨rb, ro, none⟩) g.rs[j].2.length rc])) (.run g.rs[j].1 g.rs[j].2) :=
    PartV.mono (S := S) ⟨_, rfl, cs, hrl, hec⟩ (fun b h1 h2 => ⟨h2, h1⟩)
  obtain ⟨cv, hc0, hc1, hc2, _⟩ := hec.at 0 k3
  have hcterm := cell_keep hb (hrcell _ _ hc1)
  simp only [Nat.zero_mul, Nat.zero_add] at hcterm
  have hcell1 := cell_keep hb hcell
  have Hover := Lib.hid hover
  have Hterm := Lib.hid hterm
  have Hold := Lib.hid hold
  have Hij := Lib.hid hij
  have Hht := Lib.hid (head_term k3)
  clear hc0 hc1 hc2 hrcell hec hrl hh hover hterm hold hij hget hv' hpi h5
  generalize g.rs[j].1 = f at *
  generalize g.rs[j].2 = L at *
  have hrc' : rc ≤ 9223372036854775807 := hrc
  have i1 : i < len := by rw [← Hlen.out]; exact hi'
  have i2 : (i : Int) + 1 ≤ (pc : Int) := by omega
  have hL4 : L.length ≤ 4096 := k4
  have hL0 : 0 < L.length := k3
  have hL1 : (L.length : Int) ≤ (rc : Int) := by omega
  have q0 : (0 : Int) ≤ n - f := by omega
  have q1 : IntKind.i64.wrap (n - f) = n - f := IntWalk.i64_in _ (by omega)
  have q2 : IntKind.i64.wrap (n - f + 1) = n - f + 1 := IntWalk.i64_in _ (by omega)
  have q3 : (0 : Int) ≤ n - f + 1 := by omega
  have q4 : n - f + 1 ≤ (L.length : Int) := by omega
  go_upto_if 42 with (first | (go_at_call 126; refine (last_run _ _ rb ro _ rc _ hcterm k3 k4 k1 k2).mono ?_; rintro _ w2 ⟨rfl, hb2⟩) | (go_at_call 21; refine (Hmem.out _ (below_then hb hb2)).mono ?_; rintro _ w3 ⟨rfl, hb3⟩; have hcell3 := cell_keep hb3 (cell_keep hb2 hcell1)))
  rw [← Hht.out]
  obtain ⟨T, hT⟩ : ∃ T, headTerm L = T := ⟨_, rfl⟩
  rw [hT]
  have HT := Lib.hid hT
  clear hT
  have hb13 := below_then (below_then hb hb2) hb3
  have hs3 := hb13.size
  obtain ⟨q, hq⟩ : ∃ q : Nat, n - f + 1 = q := ⟨(n - f + 1).toNat, by omega⟩
  have Hq := Lib.hid hq
  have hqL : q ≤ L.length := by omega
  have hqL2 : (q : Int) ≤ (L.length : Int) := by omega
  have hown0 : (w3.alloc (.cells #[.iface 97 (.agg #[.int .i64 n, .int .i64 T, .int .i64 (g.memAt n)])] 82)).ownsRow w.heap.size 82 1 (.slice (some ⟨w3.heap.size, 0, none⟩) 1 1) 1 [.iface 97 (.agg #[.int .i64 n, .int .i64 T, .int .i64 (g.memAt n)])] := own_one hs3
  have hcell4 := cell_keep (below_two w3 (.cells #[.iface 97 (.agg #[.int .i64 n, .int .i64 T, .int .i64 (g.memAt n)])] 82) (.cells #[.int .i64 f, .slice (some ⟨rb, ro, none⟩) L.length rc] 92)) hcell3
  have hown1 := own_keep hown0 (box_below _ (.cells #[.int .i64 f, .slice (some ⟨rb, ro, none⟩) L.length rc] 92))
  obtain ⟨y0, y1, -⟩ := cells2 (blk_new (w3.alloc (.cells #[.iface 97 (.agg #[.int .i64 n, .int .i64 T, .int .i64 (g.memAt n)])] 82)) (.cells #[.int .i64 f, .slice (some ⟨rb, ro, none⟩) L.length rc] 92))
  have hbb := below_two w3 (.cells #[.iface 97 (.agg #[.int .i64 n, .int .i64 T, .int .i64 (g.memAt n)])] 82) (.cells #[.int .i64 f, .slice (some ⟨rb, ro, none⟩) L.length rc] 92)
  rw [World.size_alloc] at y0 y1
  obtain ⟨w4, hw4⟩ : ∃ w4, (w3.alloc (.cells #[.iface 97 (.agg #[.int .i64 n, .int .i64 T, .int .i64 (g.memAt n)])] 82)).alloc (.cells #[.int .i64 f, .slice (some ⟨rb, ro, none⟩) L.length rc] 92) = w4 := ⟨_, rfl⟩
  rw [hw4] at hcell4 hown1 y0 y1 hbb ⊢
  have hb14 := below_then hb13 hbb
  have hb4s := hbb.size
  have hb24 := block_lt y0
  have Hown1 := Lib.hid hown1
  clear hown0 hown1 hw4 hq
  go_cut [10] (fun s10 wx => OverMid S w n T (g.memAt n) (if L.drop q = [] then [] else [(n + 1, L.drop q)]) s10 wx)
  case first =>
    have e1 : n - f + 1 = (q : Int) := Hq.out
    by_cases hlt' : q < L.length
    · have hlt2 : (q : Int) < (L.length : Int) := by omega
      have hlt3 : (q : Int) < (rc : Int) := by omega
      have hlt4 : q < rc := by omega
      have hd : ¬ L.drop q = [] := fun h => by have := congrArg List.length h; simp at this; omega
      have Hd := Lib.hid hd
      clear hd
      go_wp2_with (at_builtin; refine wpList_append_own_at _ rfl _ _ 86 rfl w.heap.size 82 i0 .nilIface 1 16 Try.underlying86 hi hz0 hz1 hz2 rfl (by decide) _ 1 [.iface 97 (.agg #[.int .i64 n, .int .i64 T, .int .i64 (g.memAt n)])] rfl ?ho ⟨w4.heap.size, 0, none⟩ 1 1 [.iface 92 (.agg #[.int .i64 (n + 1), .slice (some ⟨rb, ro + q * 3, none⟩) (L.length - q) (rc - q)])] rfl rfl ?hn ?h1 ?hm ?h7 ?hB ?_)
      case ho => exact own_keep Hown1.out (box_below _ _)
      try (case hn => exact World.news_of_block (cs := #[_]) (t := 82) (fr := (0, 0)) (blk_new w4 _))
      case h1 => simp [Value.oneCell']
      case hm => simp [maxLen]
      try (case h7 => omega)
      case hB => have := hb14.size; simp; omega
      intro v' w6 hown hg6 _ _
      obtain ⟨gb, cap, rfl, hgb, hgl⟩ := hown.form (by omega)
      have hb6 : Below w.heap.size w w6 := (below_alloc hb14 _).grown hg6 (by have := hb14.size; simp; omega) (fun k hk => by simp [Value.ownBlock] at hk; omega)
      have Hown := Lib.hid hown
      clear hown hg6
      go_wp2_with fail
      go_meet
      rw [if_neg Hd.out]
      refine ⟨_, cap, _, rfl, Hown.out, ⟨_, [], rfl, ⟨_, rfl, ?_⟩, rfl⟩, hb6⟩
      obtain ⟨sv, e, hE⟩ := Hold.out
      injection e with _ e
      injection e with e
      have e2 : sv = .slice (some ⟨rb, ro, none⟩) L.length rc := by simpa using e.symm
      subst e2
      have := (hE.tail q hqL hrn hrc).keepS ((Same.of_below hb6).mono fun b hb => hb.2)
      have el : (L.drop q).length = L.length - q := by simp
      exact this
    · have hqe : q = L.length := by omega
      have hd : L.drop q = [] := List.drop_eq_nil_of_le (by omega)
      have Hd := Lib.hid hd
      subst hqe
      clear hd
      by_cases hrcq : rc = L.length
      · subst hrcq
        go_wp2_with fail
        go_meet
        rw [if_pos Hd.out]
        exact ⟨_, 1, [], rfl, Hown1.out, rfl, hb14⟩
      · have h5 : ¬ (rc : Int) = (L.length : Int) := by omega
        have h6 : (L.length : Int) < (rc : Int) := by omega
        go_wp2_with fail
        go_meet
        rw [if_pos Hd.out]
        exact ⟨_, 1, [], rfl, Hown1.out, rfl, hb14⟩
  case rest =>
    obtain ⟨rs', hrs'⟩ : ∃ rs', (if L.drop q = [] then [] else [(n + 1, L.drop q)]) = rs' := ⟨_, rfl⟩
    rw [hrs'] at hcut
    have hrl : rs'.length ≤ 1 := by rw [← hrs']; split <;> simp
    obtain ⟨A, cap, vs', rfl, hown, hpc', hbc⟩ := hcut
    obtain ⟨gb, cap', hv, hgb, hgl⟩ := hown.form (by omega)
    injection hv with hv1 hv2 hv3
    subst hv1 hv3
    have hcell5 := cell_keep hbc hcell
    have hover : g.over n = Lg.mk n T (g.memAt n) (rs' ++ g.rs.drop (j + 1)) := by
      have := Hover.out
      rw [Hterm.out, HT.out, Hq.out, Int.toNat_natCast, hrs'] at this
      exact this
    have hpd : g.parts.drop (i + 1) = (g.rs.drop (j + 1)).map fun r : Int × List Ent => Part.run r.1 r.2 := by
      have := Hij.out
      subst this
      simp [Lg.parts]
    have hpt := Hpc.out.drop (i + 1)
    rw [hpd] at hpt
    have hvl : (vs.drop (i + 1)).length = len - (i + 1) := by have := Hpc.out.length; have := Hlen.out; simp; omega
    have hdl : ((g.rs.drop (j + 1)).map fun r : Int × List Ent => Part.run r.1 r.2).length = len - (i + 1) := by rw [← hpd]; have := Hlen.out; simp; omega
    have Hov := Lib.hid hover
    have Hpt := Lib.hid hpt
    have Hvl := Lib.hid hvl
    have Hdl := Lib.hid hdl
    have Hown := Lib.hid hown
    have Hpc' := Lib.hid hpc'
    have hcs := hbc.size
    clear hover hpd hpt hvl hdl hown hpc' hrs' hv2
    -- what stands behind the append
    have fin : ∀ (w6 : World) (gb6 cap6 : Nat), w6.ownsRow w.heap.size 82 1 (.slice (some ⟨gb6, 0, none⟩) (rs'.length + 1 + (len - (i + 1))) cap6) (rs'.length + 1 + (len - (i + 1))) ((.iface 97 (.agg #[.int .i64 n, .int .i64 T, .int .i64 (g.memAt n)]) :: vs') ++ vs.drop (i + 1)) →
        wc.grownBy w6 (some gb) → Below w.heap.size w w6 →
        LogAt (fun b => S b ∨ w.heap.size ≤ b) (w6.alloc (.cells #[.slice (some ⟨gb6, 0, none⟩) (rs'.length + 1 + (len - (i + 1))) cap6] 89)) (.pointer (some ⟨w6.heap.size, 0, none⟩)) (g.over n).parts := by
      intro w6 gb6 cap6 h1 h2 h3
      have hpp : (g.over n).parts = .ground n T (g.memAt n) :: ((rs'.map fun r : Int × List Ent => Part.run r.1 r.2) ++ (g.rs.drop (j + 1)).map fun r : Int × List Ent => Part.run r.1 r.2) := by rw [Hov.out]; simp [Lg.parts]
      rw [hpp]
      refine over_log h1 (by have := Hdl.out; simp at this ⊢; omega) ⟨_, vs' ++ vs.drop (i + 1), rfl, rfl, ?_⟩ h3
      exact (Hpc'.out.keepS ((same_old hcs h2 hgb).mono fun b hb => hb.2)).append (Hpt.out.keepS ((Same.of_below h3).mono fun b hb => hb.2))
    have Fin := Lib.hid fin
    clear fin
    by_cases hp1 : i + 1 = pc
    · have hle : i + 1 = len := by omega
      have hp2 : (i : Int) + 1 = (pc : Int) := by omega
      have hf0 := Fin.out
      rw [← hle, Nat.sub_self, Nat.add_zero, List.drop_eq_nil_of_le (by have := Hpc.out.length; have := Hlen.out; omega)] at hf0
      simp only [List.append_nil] at hf0
      have Hf0 := Lib.hid hf0
      clear hf0
      subst hle
      have hp3 : pc = i + 1 := hp1.symm
      subst hp3
      clear hp1 hp2
      go_wp2_with (at_builtin; refine wpList_append_own_at _ rfl _ _ 86 rfl w.heap.size 82 i0 .nilIface 1 16 Try.underlying86 hi hz0 hz1 hz2 rfl (by decide) _ (rs'.length + 1) (.iface 97 (.agg #[.int .i64 n, .int .i64 T, .int .i64 (g.memAt n)]) :: vs') rfl ?ko ⟨pb, po, none⟩ 0 0 [] rfl rfl ?kn ?k1 ?km ?k7 ?kB ?_)
      try (case ko => exact Hown.out)
      try (case kn => intro k u hu; simp at hu)
      try (case k1 => simp)
      case km => simp [maxLen]; omega
      case k7 => omega
      try (case kB => exact hcs)
      intro v' w6 hown hg6 _ _
      obtain ⟨gb6, cap6, rfl, hgb6, hgl6⟩ := hown.form (by omega)
      have hb6 : Below w.heap.size w w6 := hbc.grown hg6 hcs (fun k hk => by simp [Value.ownBlock] at hk; omega)
      have Hf1 := Lib.hid (Hf0.out w6 gb6 cap6 hown hg6 hb6)
      clear hown hg6
      go_wp2_with fail
      go_ret2
      exact ⟨_, rfl, Hf1.out, below_alloc hb6 _⟩
    · have hp2 : (i : Int) + 1 < (pc : Int) := by omega
      have hp3 : ¬ (pc : Int) = (i : Int) + 1 := by omega
      have hp4 : ¬ pc = i + 1 := by omega
      have hl2 : (i : Int) + 1 ≤ (len : Int) := by omega
      go_wp2_with (at_builtin; refine wpList_append_own_at _ rfl _ _ 86 rfl w.heap.size 82 i0 .nilIface 1 16 Try.underlying86 hi hz0 hz1 hz2 rfl (by decide) _ (rs'.length + 1) (.iface 97 (.agg #[.int .i64 n, .int .i64 T, .int .i64 (g.memAt n)]) :: vs') rfl ?jo ⟨pb, po + (i + 1), none⟩ (len - (i + 1)) (pc - (i + 1)) (vs.drop (i + 1)) rfl ?jl ?jn ?j1 ?jm ?j7 ?jB ?_)
      try (case jo => exact Hown.out)
      case jl => have := Hvl.out; simp at this ⊢; omega
      case jn =>
        intro k u hu
        first | rw [add_plain, Nat.add_assoc] | rw [Nat.add_assoc]
        exact cell_keep hbc (Hc.out (i + 1 + k) u (by first | exact hu | (rw [List.getElem?_drop] at hu; exact hu) | simpa using hu))
      case j1 => exact Hpt.out.one
      case jm => simp [maxLen]; omega
      case j7 => omega
      try (case jB => exact hcs)
      intro v' w6 hown hg6 _ _
      obtain ⟨gb6, cap6, rfl, hgb6, hgl6⟩ := hown.form (by omega)
      have hb6 : Below w.heap.size w w6 := hbc.grown hg6 hcs (fun k hk => by simp [Value.ownBlock] at hk; omega)
      have Hf1 := Lib.hid (Fin.out w6 gb6 cap6 hown hg6 hb6)
      clear hown hg6
      go_wp2_with fail
      go_ret2
      exact ⟨_, rfl, Hf1.out, below_alloc hb6 _⟩

theorem over_any {S : Nat → Prop} (p : Value) (g : Lg) (n : Int) (w : World) (h : LogAt S w p g.parts) (hg : g.Good) (hn3 : n ≤ g.top → n ≤ 1099511627776) :
    Calls Try.prog 20 #[p, .int .i64 n] w fun e w' =>
      ((g.a ≤ n ∧ n ≤ g.top ∧ ∃ q, e = .returned (.tuple #[.pointer (some q), .int .i64 0]) ∧ LogAt (fun b => S b ∨ w.heap.size ≤ b) w' (.pointer (some q)) (g.over n).parts) ∨ ((n < g.a ∨ g.top < n) ∧ e = .returned (.tuple #[.pointer none, .int .i64 1]))) ∧ Below w.heap.size w w' := by
  by_cases h0 : n = g.a
  · subst h0
    refine (over_floor p g w h hg).mono ?_
    rintro e w' ⟨q, rfl, hL, hb⟩
    exact ⟨.inl ⟨Int.le_refl _, by unfold Lg.top; omega, q, rfl, hL⟩, hb⟩
  · by_cases h1 : g.a ≤ n ∧ n ≤ g.top
    · refine (over_run p g n w h hg (by omega) h1.2 (hn3 h1.2)).mono ?_
      rintro e w' ⟨q, rfl, hL, hb⟩
      exact ⟨.inl ⟨h1.1, h1.2, q, rfl, hL⟩, hb⟩
    · refine (over_none p g n w h hg (by omega)).mono ?_
      rintro e w' ⟨rfl, hb⟩
      exact ⟨.inr ⟨by omega, rfl⟩, hb⟩
end Go.Proofs.Ytoaoldhajpbenaa
