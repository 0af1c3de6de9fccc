/- 'Top', 'Floor', 'count', 'back', 'At'. No statement is proved here. -/
import Derived.Test.YtoaoldhajpbenaaEntD
import Derived.Deep.RegionWith
import Derived.Deep.RegionHeld3
import Derived.Deep.DrawnRows
namespace Go.Proofs.Ytoaoldhajpbenaa
open Go.RowKit
attribute [local go_sem ↓] Go.wp_at_zero Go.wp_at_succ

theorem field_ground0 (a t m : Int) (w : World) : (Instr.field 97 (.agg #[.int .i64 a, .int .i64 t, .int .i64 m]) 0).run Try.prog w = .ok (.int .i64 a) w := by kernel_rfl
theorem field_ground2 (a t m : Int) (w : World) : (Instr.field 97 (.agg #[.int .i64 a, .int .i64 t, .int .i64 m]) 2).run Try.prog w = .ok (.int .i64 m) w := by kernel_rfl
attribute [go_sem] field_ground0 field_ground2

set_option maxHeartbeats 1000000 in
theorem ground_any {S : Nat → Prop} (p : Value) (g : Lg) (w : World) (h : LogAt S w p g.parts) :
    Calls Try.prog 48 #[p] w fun e w' => e = .returned (.agg #[.int .i64 g.a, .int .i64 g.t, .int .i64 g.m]) ∧ Below w.heap.size w w' := by
  obtain ⟨b, sv, vs, rfl, -, hcell, hrow, hpc⟩ := h
  obtain ⟨pb, po, pc, rfl, hn, hc, -, hlt, hcells⟩ := hrow.form (by simp [Lg.parts])
  obtain ⟨v, hv, hpv⟩ := hpc.at 0 (by simp [Lg.parts])
  have hcv := hcells 0 v hv
  rw [g.parts_zero] at hpv
  obtain rfl := hpv
  rw [Nat.add_zero] at hcv
  have h1 : (0 : Int) < (g.parts.length : Int) := by simp [Lg.parts]
  have hb := block_lt hcell
  clear hcells hpc hrow hv hn hc
  go_enter Try.func48, Try.ntmps48
  go_wp2_with fail
  refine bodyPost_ret (v := .agg #[.int .i64 g.a, .int .i64 g.t, .int .i64 g.m]) (by simp [results, Try.results48, go_sem]) rfl ⟨rfl, ?_⟩
  exact (box_below _ _).alloc (by simp) _

set_option maxHeartbeats 1000000 in
theorem top_run {S : Nat → Prop} (p : Value) (g : Lg) (w : World) (h : LogAt S w p g.parts) (hg : g.Good) :
    Calls Try.prog 19 #[p] w fun e w' => e = .returned (.tuple #[.int .i64 g.top, .int .i64 (g.termAt g.top)]) ∧ Below w.heap.size w w' := by
  obtain ⟨b, sv, vs, rfl, -, hcell, hrow, hpc⟩ := h
  obtain ⟨pb, po, pc, rfl, hn, hc, -, hlt, hcells⟩ := hrow.form (by simp [Lg.parts])
  obtain ⟨v, hv, hpv⟩ := hpc.at (g.parts.length - 1) (by simp [Lg.parts])
  have hcv := hcells _ v hv
  have hlen := g.parts_length
  have hle := hg.parts_le
  have hp0 : 0 < g.parts.length := by omega
  have hb := block_lt hcell
  have hl := hg.last
  clear hlen hcells hpc hrow hv hn hc
  rcases hl with ⟨-, hpe, ht, htt⟩ | ⟨f, l, hpe, hok, ht, htt, -, -⟩
  · rw [hpe] at hpv
    obtain rfl := hpv
    have HT := Lib.hid ht
    have HTT := Lib.hid htt
    clear hpe ht htt
    generalize g.parts.length = n at *
    have e1 : IntKind.i64.wrap ((n : Int) - 1) = (n : Int) - 1 := IntWalk.i64_in _ (by omega)
    have e2 : (0 : Int) ≤ (n : Int) - 1 := by omega
    have e3 : (n : Int) - 1 < (n : Int) := by omega
    have e5 : (1 : Int) ≤ (n : Int) := by omega
    have e4 : ((n : Int) - 1).toNat = n - 1 := by omega
    go_enter Try.func19, Try.ntmps19
    go_wp2_with fail
    go_region_held3 (fun w' => w'.cell? ⟨b, 0, none⟩ = some (.slice (some ⟨pb, po, none⟩) n pc) ∧ w'.cell? ⟨pb, po + (n - 1), none⟩ = some (.iface 97 (.agg #[.int .i64 g.a, .int .i64 g.t, .int .i64 g.m]))) (go_keep) (first | (go_at_call 127; refine (last_ground g.a g.t g.m _).mono ?_; rintro e w2 ⟨rfl, hb2⟩; have c1 := cell_keep hb2 hcell; have c2 := cell_keep hb2 hcv))
    all_goals go_wp2_with fail
    all_goals go_ret2
    all_goals exact ⟨by rw [HTT.out, HT.out]; rfl, below_of_drew hb2⟩
  · rw [hpe] at hpv
    obtain ⟨k1, k2, k3, k4⟩ := hok
    obtain ⟨sv, rfl, cs, hrl, hec⟩ := hpv
    obtain ⟨rb, ro, rc, rfl, -, hrc, -, -, hrcell⟩ := hrl.form k3
    obtain ⟨cv, hc0, hc1, hc2, -⟩ := hec.at 0 k3
    have hterm := hrcell _ _ hc1
    simp only [Nat.zero_mul, Nat.zero_add] at hterm
    have HT := Lib.hid ht
    have HTT := Lib.hid htt
    clear hpe ht htt hc0 hc1 hc2 hrcell hec hrl
    generalize g.parts.length = n at *
    have e1 : IntKind.i64.wrap ((n : Int) - 1) = (n : Int) - 1 := IntWalk.i64_in _ (by omega)
    have e2 : (0 : Int) ≤ (n : Int) - 1 := by omega
    have e3 : (n : Int) - 1 < (n : Int) := by omega
    have e5 : (1 : Int) ≤ (n : Int) := by omega
    have e4 : ((n : Int) - 1).toNat = n - 1 := by omega
    go_enter Try.func19, Try.ntmps19
    go_wp2_with fail
    go_region_held3 (fun w' => w'.cell? ⟨b, 0, none⟩ = some (.slice (some ⟨pb, po, none⟩) n pc) ∧ w'.cell? ⟨pb, po + (n - 1), none⟩ = some (.iface 92 (.agg #[.int .i64 f, .slice (some ⟨rb, ro, none⟩) l.length rc]))) (go_keep) (first | (go_at_call 126; refine (last_run f _ rb ro l.length rc _ (by exact hterm) k3 k4 k1 k2).mono ?_; rintro e w2 ⟨rfl, hb2⟩; have c1 := cell_keep hb2 hcell; have c2 := cell_keep hb2 hcv))
    all_goals go_wp2_with fail
    all_goals go_ret2
    all_goals exact ⟨by rw [HTT.out, HT.out, head_term k3]; rfl, below_of_drew hb2⟩

set_option maxHeartbeats 1000000 in
theorem floor_any {S : Nat → Prop} (p : Value) (g : Lg) (w : World) (h : LogAt S w p g.parts) :
    Calls Try.prog 22 #[p] w fun e w' => e = .returned (.tuple #[.int .i64 g.a, .int .i64 g.t, .int .i64 g.m]) ∧ Below w.heap.size w w' := by
  have Hg := Lib.hid (ground_any p g w h)
  obtain ⟨b, sv, vs, rfl, -, -⟩ := h
  go_enter Try.func22, Try.ntmps22
  go_wp2_with (go_at_call 48; refine Hg.out.mono ?_; rintro e w2 ⟨rfl, hb2⟩)
  go_quiet (fail)
  go_wp2_with fail
  go_ret3
  exact ⟨rfl, below_drewN (hb2.alloc hb2.size _) _⟩

set_option maxHeartbeats 1000000 in
theorem count_any {S : Nat → Prop} (p : Value) (g : Lg) (w : World) (h : LogAt S w p g.parts) (hg : g.Good) :
    Calls Try.prog 43 #[p] w fun e w' => e = .returned (.int .i64 g.ents.length) ∧ Below w.heap.size w w' := by
  have Hf := Lib.hid (floor_any p g w h)
  have Ht := Lib.hid fun w' (hb : Below w.heap.size w w') => top_run p g w' (h.keep hb) hg
  have b1 := hg.a0
  have b2 := hg.a1
  have b3 := hg.len
  have b4 : g.top - g.a = g.ents.length := by unfold Lg.top; omega
  have b5 : g.top ≤ 1099511631872 := by omega
  have b6 : 0 ≤ g.top := by omega
  have H4 := Lib.hid b4
  clear b4 h hg
  go_enter Try.func43, Try.ntmps43
  go_wp2_with (first | (go_at_call 22; refine Hf.out.mono ?_; rintro e w2 ⟨rfl, hb2⟩) | (go_at_call 19; refine (Ht.out _ (by assumption)).mono ?_; rintro e w3 ⟨rfl, hb3⟩))
  go_ret
  exact ⟨by rw [← H4.out]; rfl, below_then hb2 hb3⟩

set_option maxHeartbeats 1000000 in
theorem top_nil (w : World) : Calls Try.prog 19 #[.pointer none] w fun e w' => e = .returned (.tuple #[.int .i64 0, .int .i64 0]) ∧ w = w' := by
  go_enter Try.func19, Try.ntmps19
  go_wp2_with fail
  go_ret2
  exact ⟨rfl, rfl⟩
set_option maxHeartbeats 1000000 in
theorem floor_nil (w : World) : Calls Try.prog 22 #[.pointer none] w fun e w' => e = .returned (.tuple #[.int .i64 0, .int .i64 0, .int .i64 0]) ∧ w = w' := by
  go_enter Try.func22, Try.ntmps22
  go_wp2_with fail
  go_ret3
  exact ⟨rfl, rfl⟩

end Go.Proofs.Ytoaoldhajpbenaa
