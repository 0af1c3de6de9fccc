/- The law EntriesBack, walked. No statement is proved here. -/
import Derived.Test.YtoaoldhajpbenaaEntAB
namespace Go.Proofs.Ytoaoldhajpbenaa
open Go.RowKit
attribute [local go_sem ↓] Go.wp_at_zero Go.wp_at_succ

set_option maxRecDepth 100000 in
set_option maxHeartbeats 4000000 in
theorem entriesBack_any {S : Nat → Prop} (vl va vb : Value) (l a b : List Ent) (w : World) (hl : Ents S w vl l) (ha : Ents S w va a) (hb : Ents S w vb b) (hll : l.length ≤ 140737488355328) :
    Calls Try.prog 5 #[vl, va, vb] w fun e w' => e = .returned (.bool true) ∧ Below w.heap.size w w' := by
  have ml := RowAt.le hl.choose_spec.1
  have ma := RowAt.le ha.choose_spec.1
  have mb := RowAt.le hb.choose_spec.1
  unfold maxLen at ml ma mb
  have Hl := Lib.hid hl
  have Ha := Lib.hid ha
  have Hb := Lib.hid hb
  obtain ⟨Al, cl, rfl⟩ := hl.slice
  obtain ⟨Aa, ca, rfl⟩ := ha.slice
  obtain ⟨Ab, cb, rfl⟩ := hb.slice
  have hlog := Lib.hid (log_any 0 0 7 _ l w hl hll)
  have HK := Lib.hid known_any
  clear hl ha hb
  by_cases h40 : l.length ≤ 40 ∧ a.length ≤ 40 ∧ b.length ≤ 40
  rotate_left
  · have h40' : 40 < l.length ∨ (l.length ≤ 40 ∧ 40 < a.length) ∨ (l.length ≤ 40 ∧ a.length ≤ 40 ∧ 40 < b.length) := by omega
    clear h40 hlog
    rcases h40' with h1 | ⟨h1, h2⟩ | ⟨h1, h2, h3⟩
    · have h1' : (40 : Int) < l.length := by omega
      go_enter Try.func5, Try.ntmps5
      go_wp2_with (go_at_call 12; refine (HK.out _).mono ?_; rintro _ w2 ⟨rfl, hb2⟩)
      go_ret
      exact ⟨rfl, hb2⟩
    · have h1' : (l.length : Int) ≤ 40 := by omega
      have h2' : (40 : Int) < a.length := by omega
      go_enter Try.func5, Try.ntmps5
      go_wp2_with (go_at_call 12; refine (HK.out _).mono ?_; rintro _ w2 ⟨rfl, hb2⟩)
      go_ret
      exact ⟨rfl, hb2⟩
    · have h1' : (l.length : Int) ≤ 40 := by omega
      have h2' : (a.length : Int) ≤ 40 := by omega
      have h3' : (40 : Int) < b.length := by omega
      go_enter Try.func5, Try.ntmps5
      go_wp2_with (go_at_call 12; refine (HK.out _).mono ?_; rintro _ w2 ⟨rfl, hb2⟩)
      go_ret
      exact ⟨rfl, hb2⟩
  obtain ⟨h1, h2, h3⟩ := h40
  have h1' : (l.length : Int) ≤ 40 := by omega
  have h2' : (a.length : Int) ≤ 40 := by omega
  have h3' : (b.length : Int) ≤ 40 := by omega
  go_enter Try.func5, Try.ntmps5
  go_wp2_with fail
  refine hlog.out.mono ?_
  rintro _ w1 ⟨hg | ⟨-, rfl⟩, hb1⟩
  rotate_left
  · clear hlog
    go_wp2_with (go_at_call 12; refine (HK.out _).mono ?_; rintro _ w2 ⟨rfl, hb2⟩)
    go_ret
    exact ⟨rfl, below_then hb1 hb2⟩
  obtain ⟨hB, p, rfl, hp⟩ := hg
  obtain ⟨pb, ps, pv, rfl, hpr⟩ := id hp
  have HP := Lib.hid (hp.mono (T := fun _ => True) (fun b _ _ => trivial))
  have Hok := Lib.hid (logB_of hB).1
  clear hp hpr hB hlog
  go_wp2_with fail
  refine (with_two _ _ l a _ HP.out Hok.out ((Ha.out.keep hb1).mono fun _ _ _ => trivial) (by omega)).mono ?_
  rintro _ w2 ⟨hA | rfl, hb2⟩
  rotate_left
  · go_wp2_with fail
    refine (with_two _ _ l b _ (HP.out.keep hb2) Hok.out ((Hb.out.keep (below_then hb1 hb2)).mono fun _ _ _ => trivial) (by omega)).mono ?_
    rintro _ w3 ⟨⟨-, q, rfl, -⟩ | rfl, hb3⟩
    all_goals
      go_wp2_with (go_at_call 12; refine (HK.out _).mono ?_; rintro _ w4 ⟨rfl, hb4⟩)
      go_ret
      exact ⟨rfl, below_then (below_then (below_then hb1 hb2) hb3) hb4⟩
  obtain ⟨hokA, ga, rfl, hga⟩ := hA
  have HokA := Lib.hid hokA
  have Hga := Lib.hid hga
  clear hokA hga
  go_wp2_with fail
  refine (with_two _ _ l b _ (HP.out.keep hb2) Hok.out ((Hb.out.keep (below_then hb1 hb2)).mono fun _ _ _ => trivial) (by omega)).mono ?_
  rintro _ w3 ⟨hBb | rfl, hb3⟩
  rotate_left
  · go_wp2_with (go_at_call 12; refine (HK.out _).mono ?_; rintro _ w4 ⟨rfl, hb4⟩)
    go_ret
    exact ⟨rfl, below_then (below_then (below_then hb1 hb2) hb3) hb4⟩
  obtain ⟨hokB, gb, rfl, hgb⟩ := hBb
  obtain ⟨hT, hge, hhe, hm⟩ := two_of HokA.out hokB (by simp; omega) (by simp; omega)
  have Hga3 := Lib.hid (Hga.out.keep hb3)
  have Hgb := Lib.hid hgb
  clear hokB hgb
  generalize Lg.of 0 0 7 (l ++ a) = G at *
  generalize Lg.of 0 0 7 (l ++ b) = H at *
  have hH80 : H.ents.length ≤ 80 := by rw [hhe]; simp; omega
  have hG80 : G.rs.length ≤ 80 := by
    have := runs_le_all G.rs hT.gG.chain.ne
    have e : (allOf G.rs).length = (l ++ a).length := congrArg List.length hge
    rw [List.length_append] at e
    omega
  obtain ⟨K, hK1, hK2⟩ := hT.gG.marked (n := H.ents.length) (by rw [hT.ga]; omega)
  have htop := hT.htop
  have b3 := below_then (below_then hb1 hb2) hb3
  have HT := Lib.hid hT
  have HK2 := Lib.hid hK2
  have HTop := Lib.hid htop
  clear hT hge hhe hm hK2 htop Hga HP Hok HokA Hl Ha Hb
  go_wp2_with fail
  refine (top_run _ H w3 Hgb.out HT.out.hG).mono ?_
  rintro _ w4 ⟨rfl, hb4⟩
  rw [HTop.out]
  go_wp2_with fail
  have hr := callsIn_wide.1 (lawRuns_in 3 (by decide) _ G HT.out.gG w4 ((Hga3.out.keep hb4).mono fun b hb _ => hb))
  refine hr.mono ?_
  rintro _ w5 ⟨rv, rfl, hrv, hb5⟩
  obtain ⟨rA, rc, rfl⟩ := (RowAt.of_own hrv).slice
  clear hr hrv
  have b35 := below_then hb4 hb5
  have HQH := Lib.hid fun (n : Int) W (hb : Below w5.heap.size w5 W) => term_any _ H n W (Hgb.out.keep (below_then b35 hb)) HT.out.hG
  have HSH := Lib.hid fun (n m : Int) W (hb : Below w5.heap.size w5 W) => slice_any _ H n m W (Hgb.out.keep (below_then b35 hb)) HT.out.hG
  have HJG := Lib.hid fun (n t : Int) (lv : Value) (P : List Ent) W (hb : Below w5.heap.size w5 W) => join_any (S := fun _ => True) _ G n t lv P W (Hga3.out.keep (below_then b35 hb)) HT.out.gG
  go_wp2_with fail
  go_loopw [12, 15] (fun s12 s15 wr => ∃ i n k : Nat, s12 = .int .i64 n ∧ s15 = .int .i64 i ∧ n ≤ H.ents.length ∧ Mark G n k ∧ i + k ≤ G.rs.length + 1 ∧ Below w5.heap.size w5 wr) (fun _ s15 _ => G.rs.length + 2 - (intOf s15).toNat)
  case atStart => exact ⟨0, H.ents.length, K, rfl, rfl, Nat.le_refl _, HK2.out, by omega, Below.refl _ _⟩
  case round =>
    obtain ⟨i, n, k, rfl, rfl, hn, hmk, hik, hbr⟩ := hrel
    have hi2 : (i : Int) < (G.rs.length : Int) + 2 := by omega
    have hi3 : (i : Int) ≤ 81 := by omega
    have hn2 : (n : Int) ≤ 80 := by omega
    have hst := HT.out.step n hn k hmk
    have Hst := Lib.hid hst
    clear hst
    go_wp2_with fail
    refine (HQH.out n wr hbr).mono ?_
    rintro _ w6 ⟨rfl, hb6⟩
    obtain ⟨T, hTe⟩ : ∃ T, H.termAt n = T := ⟨_, rfl⟩
    rw [hTe]
    have HTe := Lib.hid hTe
    clear hTe
    go_wp2_with fail
    refine (HSH.out (n + 1) 4096 w6 (below_then hbr hb6)).mono ?_
    rintro _ w7 ⟨lv, rfl, hlv, hb7⟩
    obtain ⟨P, hP⟩ : ∃ P, H.slice (n + 1) 4096 = P := ⟨_, rfl⟩
    rw [hP] at hlv
    have hPl : P.length ≤ 4096 := by
      rw [← hP]; unfold Lg.slice; split
      · simp; omega
      · simp
    obtain ⟨Ap, cp, rfl⟩ := hlv.slice
    have Hlv := Lib.hid (hlv.mono (T := fun _ => True) fun _ _ _ => trivial)
    have HP := Lib.hid hP
    clear hlv hP
    have b7 := below_then (below_then hbr hb6) hb7
    go_wp2_with fail
    refine (HJG.out n T _ P w7 b7 Hlv.out ⟨by omega, by omega⟩ (by omega)).mono ?_
    rintro _ w8 ⟨⟨q, he, hq⟩, hb8⟩
    rw [← HTe.out, ← HP.out] at he hq
    rcases Hst.out with ⟨es, fin, fr, hJ⟩ | ⟨j, m, hkj, hmn, hJ, hmk'⟩
    · rw [hJ] at he hq
      subst he
      replace hq : LogAt _ w8 q (Lg.of G.a G.t G.m es).parts := hq
      obtain ⟨xb, xs, xv, rfl, hqr⟩ := hq
      clear hJ hqr
      go_upto_region 16 with fail
      generalize hW6 : w8.alloc (.cells #[.pointer (some ⟨xb, 0, none⟩), .bool true, .int .i64 fin, .int .i64 fr, .int .i64 0] 40) = W6
      have F6 := five_new w8 W6 _ _ _ _ _ _ hW6
      clear hW6
      obtain ⟨⟨x0, x1, x2, x3, x4⟩, hB6⟩ := F6
      go_wp2_with (go_at_call 12; refine (HK.out _).mono ?_; rintro _ w9 ⟨rfl, hb9⟩)
      go_ret
      exact ⟨rfl, below_then (below_then (below_then (below_then (below_then b3 b35) b7) hb8) hB6) hb9⟩
    · rw [hJ] at he hq
      subst he
      obtain rfl : q = .pointer none := hq
      have hmn2 : (m : Int) < (n : Int) := by omega
      have Hmk := Lib.hid hmk'
      clear hJ hmk'
      go_upto_region 16 with fail
      generalize hW6 : w8.alloc (.cells #[.pointer none, .bool false, .int .i64 0, .int .i64 0, .int .i64 m] 40) = W6
      have F6 := five_new w8 W6 _ _ _ _ _ _ hW6
      clear hW6
      obtain ⟨⟨x0, x1, x2, x3, x4⟩, hB6⟩ := F6
      go_wp2_with fail
      go_roundw
      case rel => exact ⟨i + 1, m, j, rfl, by simp, by omega, Hmk.out, by omega, below_then (below_then b7 hb8) hB6⟩
      case measure => simp [intOf]; omega
end Go.Proofs.Ytoaoldhajpbenaa
