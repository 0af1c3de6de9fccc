/- The law EntriesRuns, walked. No statement is proved here. -/
import Derived.Test.YtoaoldhajpbenaaEntV
namespace Go.Proofs.Ytoaoldhajpbenaa
open Go.RowKit
attribute [local go_sem ↓] Go.wp_at_zero Go.wp_at_succ

set_option maxRecDepth 100000 in
set_option maxHeartbeats 2000000 in
theorem entriesRuns_any {S : Nat → Prop} (a t m : Int) (lv : Value) (l : List Ent) (w : World) (hl : Ents S w lv l) (hll : l.length ≤ 140737488355328) :
    Calls Try.prog 3 #[.int .i64 a, .int .i64 t, .int .i64 m, lv] w fun e w' => e = .returned (.bool true) ∧ Below w.heap.size w w' := by
  have Hl := Lib.hid hl
  obtain ⟨A, lc, rfl⟩ := hl.slice
  have hlog := Lib.hid (log_any a t m (.slice A l.length lc) l w hl hll)
  have HK := Lib.hid known_any
  clear hl
  go_enter Try.func3, Try.ntmps3
  go_wp2_with fail
  refine hlog.out.mono ?_
  rintro _ w1 ⟨hg | ⟨-, rfl⟩, hb1⟩
  · obtain ⟨hB, p, rfl, hp⟩ := hg
    obtain ⟨pb, ps, pv, rfl, hpr⟩ := id hp
    have HP := Lib.hid (hp.mono (T := fun b => b < w1.heap.size) (fun b h _ => h))
    have hB' : newB a t m = true ∧ okSeq t l = true ∧ l.length ≤ 4096 := by simpa [logB, and_assoc] using hB
    obtain ⟨hgood, hents, -, hGa, hGt, hGm⟩ := (newB_floor hB'.1).of hB'.2.1 hB'.2.2
    have hf := newB_floor hB'.1
    have fa0 := hf.a0
    have fa1 := hf.a1
    clear hp hpr hB hB' hf
    generalize hG : Lg.of a t m l = G at *
    have Hgood := Lib.hid hgood
    have Hents := Lib.hid hents
    have HGa := Lib.hid hGa
    clear hG hgood hents hGa hGt hGm hlog
    by_cases h60 : 60 < l.length
    · have h60' : (60 : Int) < (l.length : Int) := by omega
      go_wp2_with (go_at_call 12; refine (HK.out _).mono ?_; rintro _ w2 ⟨rfl, hb2⟩)
      go_ret
      exact ⟨rfl, below_then hb1 hb2⟩
    · have h60' : (l.length : Int) ≤ 60 := by omega
      have HR := Lib.hid (callsIn_wide.1 (lawRuns_in 3 (by decide) _ G Hgood.out _ HP.out))
      have hrs : G.rs.length ≤ l.length := by
        have := runs_le_all G.rs Hgood.out.chain.ne
        have e : (allOf G.rs).length = l.length := congrArg List.length Hents.out
        omega
      by_cases hz : l.length = 0
      · have hr0 : G.rs.length = 0 := by omega
        have hz' : (l.length : Int) = 0 := by omega
        go_wp2_with (first | (go_at_call 12; refine (HK.out _).mono ?_; rintro _ w3 ⟨rfl, hb3⟩) | (go_at_call 13; refine HR.out.mono ?_; rintro _ w2 ⟨rv, rfl, hr, hb2⟩; rw [hr0] at hr; obtain ⟨rA, rc, rfl⟩ := (RowAt.of_own hr).slice; clear hr))
        go_ret
        exact ⟨rfl, below_then (below_then hb1 hb2) hb3⟩
      · have hr0 : 0 < G.rs.length := Hgood.out.runs_pos (by rw [Hents.out]; omega)
        have hz' : 0 < l.length := by omega
        have hz2 : (0 : Int) < (l.length : Int) := by omega
        have hz3 : ¬ (l.length : Int) = 0 := by omega
        obtain ⟨rn, hrn⟩ : ∃ rn, G.rs.length = rn := ⟨_, rfl⟩
        have hrn0 : 0 < rn := by omega
        have hrn1 : (0 : Int) < (rn : Int) := by omega
        have hrn2 : rn ≤ 60 := by omega
        have Hrn := Lib.hid hrn
        go_upto_region 7 with (go_at_call 13; refine HR.out.mono ?_; rintro _ w2 ⟨rv, rfl, hr, hb2⟩; rw [hrn] at hr; obtain ⟨rb, ro, rc, rfl, hrc, hrm, -, hrb, hrcell⟩ := (RowAt.of_own hr).form hrn0)
        have RC : ∀ j (hj : j < G.rs.length), w2.cell? ⟨rb, ro + j * 2, none⟩ = some (.int .i64 G.rs[j].1) ∧ w2.cell? ⟨rb, ro + j * 2 + 1, none⟩ = some (.int .i64 (headTerm G.rs[j].2)) := by
          intro j hj
          obtain ⟨h1, h2⟩ := runCells_at (runsOf G.rs) j (by rw [runsOf_length]; exact hj)
          have e : (runsOf G.rs)[j]'(by rw [runsOf_length]; exact hj) = (G.rs[j].1, headTerm G.rs[j].2) := by simp [runsOf]
          rw [e] at h1 h2
          exact ⟨hrcell _ _ h1, by rw [Nat.add_assoc]; exact hrcell _ _ h2⟩
        obtain ⟨cs, hlrow, hlec⟩ := Hl.out
        obtain ⟨lb, lo, lc', he0, hln, hlc, -, hlb, hlcell⟩ := hlrow.form hz'
        injection he0 with he1 _ he2
        subst he1 he2
        have b02 := below_then hb1 hb2
        have LC : ∀ j (hj : j < l.length), w2.cell? ⟨lb, lo + j * 3 + 1, none⟩ = some (.int .i64 l[j].term) := by
          intro j hj
          obtain ⟨cv, hc0, hc1, hc2, -⟩ := hlec.at j hj
          rw [Nat.add_assoc]
          exact cell_keep b02 (hlcell _ _ hc1)
        have c0 : w2.cell? ⟨rb, ro, none⟩ = some (.int .i64 (a + 1)) := by
          have := (RC 0 (by omega)).1
          rw [Hgood.out.first (by omega), HGa.out] at this
          simpa using this
        have HRC := Lib.hid RC
        have HLC := Lib.hid LC
        have Hrc := Lib.hid hrc
        have Hln := Lib.hid hln
        have HL2 := Lib.hid (HP.out.keep hb2)
        have hl60 : l.length ≤ 60 := by omega
        clear RC LC hrcell hlcell hlec hlrow hr hrn hrc hrm hln hlc
        go_wp2_with fail
        go_loopw [11, 12] (fun s11 s12 wr => ∃ i k : Nat, i ≤ l.length ∧ s12 = .int .i64 i ∧ s11 = .int .i64 k ∧ Kin G i k ∧ Below w2.heap.size w2 wr) (fun _ s12 _ => l.length - (intOf s12).toNat)
        case atStart => exact ⟨0, 0, by omega, rfl, rfl, ⟨by rw [Hrn.out]; exact hrn0, fun _ => rfl, fun h => by omega⟩, Below.refl _ _⟩
        case round =>
          obtain ⟨i, k, hi, rfl, rfl, hK, hbr⟩ := hrel
          have hkr : k < rn := by have := hK.1; rw [Hrn.out] at this; exact this
          have hkr2 : (k : Int) < (rn : Int) := by omega
          have hk0 : (0 : Int) ≤ (k : Int) + 1 := by omega
          have HKin := Lib.hid hK
          clear hK
          by_cases hlt : i < l.length
          · have hlt2 : (i : Int) < (l.length : Int) := by omega
            by_cases hA : ∃ h1 : k + 1 < G.rs.length, G.rs[k + 1].1 = G.a + i + 1
            · obtain ⟨hA1, hA2⟩ := hA
              have hA3 : k + 1 < rn := by rw [← Hrn.out]; exact hA1
              have hA4 : (k : Int) + 1 < (rn : Int) := by omega
              have cA : wr.cell? ⟨rb, ro + (k + 1) * 2, none⟩ = some (.int .i64 (a + i + 1)) := by
                have := cell_keep hbr (HRC.out (k + 1) hA1).1
                rw [hA2, HGa.out] at this; exact this
              obtain ⟨KN, hrise⟩ := Hgood.out.kin_up HKin.out hA1 hA2
              have hKN := KN
              obtain ⟨kt1, kt2⟩ := Hgood.out.kin_term (i := i) (k := k + 1) (by rw [Hents.out]; exact hlt) KN
              rw [HGa.out] at kt1 kt2
              obtain ⟨T, hT⟩ : ∃ T, G.termAt (a + i + 1) = T := ⟨_, rfl⟩
              rw [hT] at kt1 kt2
              have hli : l[i].term = T := by
                have e : G.ents[i]'(by rw [Hents.out]; exact hlt) = l[i] := by simp only [Hents.out]
                rw [← e]; exact kt2.symm
              have cL : wr.cell? ⟨lb, lo + i * 3 + 1, none⟩ = some (.int .i64 T) := by rw [← hli]; exact cell_keep hbr (HLC.out i hlt)
              have cT : wr.cell? ⟨rb, ro + (k + 1) * 2 + 1, none⟩ = some (.int .i64 T) := by rw [kt1]; exact cell_keep hbr (HRC.out (k + 1) KN.1).2
              have HT := Lib.hid fun W (hb : Below w2.heap.size w2 W) => hT ▸ term_any _ G (a + i + 1) W (HL2.out.keep hb) Hgood.out
              obtain ⟨v2, hv2⟩ : ∃ v2, headTerm (G.rs[k]'(HKin.out.1)).2 = v2 := ⟨_, rfl⟩
              have cP : wr.cell? ⟨rb, ro + k * 2 + 1, none⟩ = some (.int .i64 v2) := by rw [← hv2]; exact cell_keep hbr (HRC.out k HKin.out.1).2
              have hlt3 : v2 < T := by rw [kt1, ← hv2]; exact hrise
              have e1 : IntKind.i64.wrap ((k : Int) + 1 - 1) = (k : Int) := by rw [Int.add_sub_cancel]; exact IntWalk.i64_in _ (by omega)
              have KN' := Lib.hid KN
              clear hT kt1 kt2 hli hv2 KN hKN
              go_upto_region 16 with fail
              go_quiet (fail)
              go_wp2_with fail
              go_region_held3 (fun w' => w'.cell? ⟨rb, ro + (k + 1) * 2 + 1, none⟩ = some (.int .i64 T) ∧ w'.cell? ⟨lb, lo + i * 3 + 1, none⟩ = some (.int .i64 T)) (go_keep) ((go_at_call 14; refine (HT.out _ (by exact below_drewN (below_drewN hbr nq) 1)).mono ?_; rintro _ w3 ⟨rfl, hb3⟩; have z0 : w3.cell? ⟨rb, ro + (k + 1) * 2 + 1, none⟩ = some (.int .i64 T) := cell_keep hb3 cT; have z1 : w3.cell? ⟨lb, lo + i * 3 + 1, none⟩ = some (.int .i64 T) := cell_keep hb3 cL))
              all_goals
                go_wp2_with fail
                go_roundw
                case rel => exact ⟨i + 1, k + 1, hlt, by simp, by simp, KN'.out, below_then (below_drewN (below_drewN hbr nq) 1) hb3⟩
                case measure => simp [intOf]; omega
            · have KN := Hgood.out.kin_on (by rw [Hents.out]; exact hlt) HKin.out hA
              have hKN := KN
              obtain ⟨kt1, kt2⟩ := Hgood.out.kin_term (i := i) (k := k) (by rw [Hents.out]; exact hlt) KN
              rw [HGa.out] at kt1 kt2
              obtain ⟨T, hT⟩ : ∃ T, G.termAt (a + i + 1) = T := ⟨_, rfl⟩
              rw [hT] at kt1 kt2
              have hli : l[i].term = T := by
                have e : G.ents[i]'(by rw [Hents.out]; exact hlt) = l[i] := by simp only [Hents.out]
                rw [← e]; exact kt2.symm
              have cL : wr.cell? ⟨lb, lo + i * 3 + 1, none⟩ = some (.int .i64 T) := by rw [← hli]; exact cell_keep hbr (HLC.out i hlt)
              have cT : wr.cell? ⟨rb, ro + k * 2 + 1, none⟩ = some (.int .i64 T) := by rw [kt1]; exact cell_keep hbr (HRC.out k KN.1).2
              have HT := Lib.hid fun W (hb : Below w2.heap.size w2 W) => hT ▸ term_any _ G (a + i + 1) W (HL2.out.keep hb) Hgood.out
              have KN' := Lib.hid KN
              by_cases hB : k + 1 < rn
              · obtain ⟨x, hx⟩ : ∃ x, (G.rs[k + 1]'(by rw [Hrn.out]; exact hB)).1 = x := ⟨_, rfl⟩
                have cA : wr.cell? ⟨rb, ro + (k + 1) * 2, none⟩ = some (.int .i64 x) := by rw [← hx]; exact cell_keep hbr (HRC.out (k + 1) (by rw [Hrn.out]; exact hB)).1
                have hxn : ¬ x = a + i + 1 := fun e => hA ⟨by rw [Hrn.out]; exact hB, by rw [hx, HGa.out]; exact e⟩
                have hxb : (x == a + i + 1) = false := by simpa using hxn
                have hB4 : (k : Int) + 1 < (rn : Int) := by omega
                clear hT kt1 kt2 hli hx KN hKN
                go_wp2_with fail
                go_region_held3 (fun w' => w'.cell? ⟨rb, ro + k * 2 + 1, none⟩ = some (.int .i64 T) ∧ w'.cell? ⟨lb, lo + i * 3 + 1, none⟩ = some (.int .i64 T)) (go_keep) ((go_at_call 14; refine (HT.out _ (by exact below_drewN hbr 1)).mono ?_; rintro _ w3 ⟨rfl, hb3⟩; have z0 : w3.cell? ⟨rb, ro + k * 2 + 1, none⟩ = some (.int .i64 T) := cell_keep hb3 cT; have z1 : w3.cell? ⟨lb, lo + i * 3 + 1, none⟩ = some (.int .i64 T) := cell_keep hb3 cL))
                all_goals
                  go_wp2_with fail
                  go_roundw
                  case rel => exact ⟨i + 1, k, hlt, by simp, by simp, KN'.out, below_then (below_drewN hbr 1) hb3⟩
                  case measure => simp [intOf]; omega
              · have hB4 : (rn : Int) ≤ (k : Int) + 1 := by omega
                clear hT kt1 kt2 hli KN hKN
                go_wp2_with fail
                go_region_held3 (fun w' => w'.cell? ⟨rb, ro + k * 2 + 1, none⟩ = some (.int .i64 T) ∧ w'.cell? ⟨lb, lo + i * 3 + 1, none⟩ = some (.int .i64 T)) (go_keep) ((go_at_call 14; refine (HT.out _ (by exact below_drewN hbr 1)).mono ?_; rintro _ w3 ⟨rfl, hb3⟩; have z0 : w3.cell? ⟨rb, ro + k * 2 + 1, none⟩ = some (.int .i64 T) := cell_keep hb3 cT; have z1 : w3.cell? ⟨lb, lo + i * 3 + 1, none⟩ = some (.int .i64 T) := cell_keep hb3 cL))
                all_goals
                  go_wp2_with fail
                  go_roundw
                  case rel => exact ⟨i + 1, k, hlt, by simp, by simp, KN'.out, below_then (below_drewN hbr 1) hb3⟩
                  case measure => simp [intOf]; omega
          · obtain rfl : i = l.length := by omega
            have hke := Hgood.out.kin_end (k := k) (by rw [Hents.out]; exact hz') (by rw [Hents.out]; exact HKin.out)
            rw [Hrn.out] at hke
            have hke2 : (k : Int) = (rn : Int) - 1 := by omega
            clear hke
            go_wp2_with (go_at_call 12; refine (HK.out _).mono ?_; rintro _ w5 ⟨rfl, hb5⟩)
            go_ret
            exact ⟨rfl, below_then (below_then b02 hbr) hb5⟩
  · clear hlog
    go_wp2_with (go_at_call 12; refine (HK.out _).mono ?_; rintro _ w2 ⟨rfl, hb2⟩)
    go_ret
    exact ⟨rfl, below_then hb1 hb2⟩
end Go.Proofs.Ytoaoldhajpbenaa
