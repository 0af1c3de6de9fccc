/- The law EntriesOver, walked. No statement is proved here. -/
import Derived.Test.YtoaoldhajpbenaaEntBe
namespace Go.Proofs.Ytoaoldhajpbenaa
open Go.RowKit
attribute [local go_sem ↓] Go.wp_at_zero Go.wp_at_succ

set_option maxRecDepth 100000 in
set_option maxHeartbeats 2000000 in
theorem entriesOver_any {S : Nat → Prop} (m n : Int) (vl : Value) (l : List Ent) (w : World) (hl : Ents S w vl l) (hll : l.length ≤ 140737488355328) (hn : in64 n) :
    Calls Try.prog 6 #[.int .i64 m, vl, .int .i64 n] w fun e w' => e = .returned (.bool true) ∧ Below w.heap.size w w' := by
  obtain ⟨Al, cl, rfl⟩ := hl.slice
  have hlog := Lib.hid (log_any 0 0 m _ l w hl hll)
  have HK := Lib.hid known_any
  obtain ⟨hn1, hn2⟩ := hn
  clear hl
  go_enter Try.func6, Try.ntmps6
  go_wp2_with fail
  refine hlog.out.mono ?_
  rintro _ w1 ⟨hg | ⟨-, rfl⟩, hb1⟩
  rotate_left
  · clear hlog
    go_wp2_with (go_at_call 12; refine (HK.out _).mono ?_; rintro _ w2 ⟨rfl, hb2⟩)
    go_ret
    exact ⟨rfl, below_then hb1 hb2⟩
  obtain ⟨hB, p, rfl, hp⟩ := hg
  obtain ⟨pb, ps, pv, rfl, hpr⟩ := id hp
  have HP := Lib.hid (hp.mono (T := fun _ => True) (fun b _ _ => trivial))
  have hB' : newB 0 0 m = true ∧ okSeq 0 l = true ∧ l.length ≤ 4096 := by simpa [logB, and_assoc] using hB
  obtain ⟨hgood, hents, -, hGa, hGt, hGm⟩ := (newB_floor hB'.1).of hB'.2.1 hB'.2.2
  clear hp hpr hB hB' hlog
  generalize Lg.of 0 0 m l = G at *
  have htop : G.top = l.length := by unfold Lg.top; rw [hGa, hents]; omega
  by_cases h60 : 60 < l.length
  · have h60' : (60 : Int) < (l.length : Int) := by omega
    clear hents hGa hGt hGm htop
    go_wp2_with (go_at_call 12; refine (HK.out _).mono ?_; rintro _ w2 ⟨rfl, hb2⟩)
    go_ret
    exact ⟨rfl, below_then hb1 hb2⟩
  have h60' : (l.length : Int) ≤ 60 := by omega
  have Hgood := Lib.hid hgood
  have HGa := Lib.hid hGa
  have Htop := Lib.hid htop
  have Hov := Lib.hid (over_any _ G n w1 HP.out hgood (fun h => by rw [htop] at h; omega))
  clear hgood hents hGa hGt hGm htop
  go_wp2_with fail
  refine Hov.out.mono ?_
  rintro _ w2 ⟨hO | ⟨hno, rfl⟩, hb2⟩
  rotate_left
  · rw [HGa.out, Htop.out] at hno
    rcases hno with hA | hA
    · go_wp2_with (go_at_call 12; refine (HK.out _).mono ?_; rintro _ w3 ⟨rfl, hb3⟩)
      go_ret
      exact ⟨rfl, below_then (below_then hb1 hb2) hb3⟩
    · have hA0 : 0 ≤ n := by omega
      go_wp2_with (go_at_call 12; refine (HK.out _).mono ?_; rintro _ w3 ⟨rfl, hb3⟩)
      go_ret
      exact ⟨rfl, below_then (below_then hb1 hb2) hb3⟩
  obtain ⟨ha, ht, q, rfl, hq⟩ := hO
  rw [HGa.out] at ha
  rw [Htop.out] at ht
  obtain ⟨N, rfl⟩ : ∃ N : Nat, n = N := ⟨n.toNat, by omega⟩
  have hN : N ≤ l.length := by omega
  have ha' : G.a ≤ (N : Int) := by rw [HGa.out]; omega
  have ht' : (N : Int) ≤ G.top := by rw [Htop.out]; omega
  have h3 : (N : Int) ≤ 1099511627776 := by omega
  have HH := Lib.hid (Hgood.out.over ha' ht' h3).1
  have HT := Lib.hid fun (k : Int) (hk : (N : Int) ≤ k) => Hgood.out.over_term ha' ht' h3 hk
  have HM := Lib.hid fun (k : Int) (hk : (N : Int) ≤ k) => Hgood.out.over_mem ha' ht' h3 hk
  have HS := Lib.hid fun (k : Int) (hk : (N : Int) ≤ k) => Hgood.out.over_slice 3 ha' ht' h3 hk
  have HU := Lib.hid (Hgood.out.over_under ha' ht' h3)
  have HQ := Lib.hid (hq.mono (T := fun _ => True) (fun b _ _ => trivial))
  have HP2 := Lib.hid (HP.out.keep hb2)
  clear hq ha' ht' HP
  generalize G.over (N : Int) = H at *
  have hN2 : (N : Int) ≤ 60 := by omega
  have TG := Lib.hid fun (k : Int) W (hb : Below w2.heap.size w2 W) => term_any _ G k W (HP2.out.keep hb) Hgood.out
  have TH := Lib.hid fun (k : Int) W (hb : Below w2.heap.size w2 W) => term_any _ H k W (HQ.out.keep hb) HH.out
  have MG := Lib.hid fun (k : Int) (hk : in64 k) W (hb : Below w2.heap.size w2 W) => members_any _ G k hk W (HP2.out.keep hb) Hgood.out
  have MH := Lib.hid fun (k : Int) (hk : in64 k) W (hb : Below w2.heap.size w2 W) => members_any _ H k hk W (HQ.out.keep hb) HH.out
  have SG := Lib.hid fun (k : Int) W (hb : Below w2.heap.size w2 W) => slice_any _ G k 3 W (HP2.out.keep hb) Hgood.out
  have SH := Lib.hid fun (k : Int) W (hb : Below w2.heap.size w2 W) => slice_any _ H k 3 W (HQ.out.keep hb) HH.out
  go_wp2_with fail
  go_loopw [10] (fun s10 wr => ∃ k : Nat, N ≤ k ∧ k ≤ l.length + 1 ∧ s10 = .int .i64 k ∧ Below w2.heap.size w2 wr) (fun s10 _ => l.length + 1 - (intOf s10).toNat)
  case atStart => exact ⟨N, Nat.le_refl _, by omega, rfl, Below.refl _ _⟩
  case round =>
    obtain ⟨k, hk1, hk2, rfl, hbr⟩ := hrel
    have hk61 : (k : Int) ≤ 61 := by omega
    by_cases hlt : k ≤ l.length
    · have hlt2 : (k : Int) ≤ (l.length : Int) := by omega
      have kT := HT.out k (by omega)
      have kM := HM.out k (by omega)
      have kS := HS.out k (by omega)
      obtain ⟨T, hTe⟩ : ∃ T, G.termAt k = T := ⟨_, rfl⟩
      obtain ⟨M, hMe⟩ : ∃ M, G.memAt k = M := ⟨_, rfl⟩
      obtain ⟨L, hLe⟩ : ∃ L, G.slice ((k : Int) + 1) 3 = L := ⟨_, rfl⟩
      rw [hTe] at kT
      rw [hMe] at kM
      rw [hLe] at kS
      have ETG := Lib.hid hTe
      have EMG := Lib.hid hMe
      have ESG := Lib.hid hLe
      have ETH := Lib.hid kT
      have EMH := Lib.hid kM
      have ESH := Lib.hid kS
      clear hTe hMe hLe kT kM kS
      go_wp2_with fail
      refine (TG.out k wr hbr).mono ?_
      rintro _ w3 ⟨rfl, hb3⟩
      rw [ETG.out]
      go_wp2_with fail
      refine (TH.out k w3 (below_then hbr hb3)).mono ?_
      rintro _ w4 ⟨rfl, hb4⟩
      rw [ETH.out]
      have b4 := below_then (below_then hbr hb3) hb4
      go_wp2_with fail
      refine (MG.out k ⟨by omega, by omega⟩ w4 b4).mono ?_
      rintro _ w5 ⟨rfl, hb5⟩
      rw [EMG.out]
      go_wp2_with fail
      refine (MH.out k ⟨by omega, by omega⟩ w5 (below_then b4 hb5)).mono ?_
      rintro _ w6 ⟨rfl, hb6⟩
      rw [EMH.out]
      have b6 := below_then (below_then b4 hb5) hb6
      go_wp2_with fail
      refine (SG.out (k + 1) w6 b6).mono ?_
      rintro _ w7 ⟨lv7, rfl, hlv7, hb7⟩
      rw [ESG.out] at hlv7
      obtain ⟨A7, c7, rfl⟩ := hlv7.slice
      have Hlv7 := Lib.hid hlv7
      clear hlv7
      go_wp2_with fail
      refine (SH.out (k + 1) w7 (below_then b6 hb7)).mono ?_
      rintro _ w8 ⟨lv8, rfl, hlv8, hb8⟩
      rw [ESH.out] at hlv8
      obtain ⟨A8, c8, rfl⟩ := hlv8.slice
      have Hlv8 := Lib.hid hlv8
      clear hlv8
      go_wp2_with fail
      refine (same_eq _ _ L w8 (Hlv7.out.keep hb8) Hlv8.out).mono ?_
      rintro _ w9 ⟨rfl, hd9⟩
      go_wp2_with fail
      go_roundw
      case rel => exact ⟨k + 1, by omega, by omega, by simp, below_then (below_then (below_then b6 hb7) hb8) hd9.below⟩
      case measure => simp [intOf]; omega
    · have hlt2 : (l.length : Int) < (k : Int) := by omega
      go_wp2_with fail
      refine (TH.out (N - 1) wr hbr).mono ?_
      rintro _ w3 ⟨rfl, hb3⟩
      rw [HU.out]
      go_wp2_with (go_at_call 12; refine (HK.out _).mono ?_; rintro _ w4 ⟨rfl, hb4⟩)
      go_ret
      exact ⟨rfl, below_then (below_then (below_then (below_then hb1 hb2) hbr) hb3) hb4⟩
end Go.Proofs.Ytoaoldhajpbenaa
