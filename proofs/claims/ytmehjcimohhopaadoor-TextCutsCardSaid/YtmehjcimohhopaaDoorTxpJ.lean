/- Bytes read as pairs: the reference's, walked. No statement is proved here. -/
import Derived.Test.YtmehjcimohhopaaDoorTxpI
namespace Go.Proofs.YtmehjcimohhopaaDoor
open Go.RowKit

theorem byte_cell (b : List UInt8) (i : Nat) (h : i < b.length) : (byteCells b)[i]? = some (.int .u8 (b[i].toNat : Int)) := byteCells_get b i h
theorem ext_take (L : ByteArray) (q : Nat) (x : List UInt8) (h : L.data.toList = x) : L.extract 0 q = toB (x.take q) := by
  subst h
  apply ByteArray.ext
  apply Array.toList_inj.1
  rw [ByteArray.data_extract]
  simp [toB]
theorem ext_drop (L : ByteArray) (q : Nat) (x : List UInt8) (h : L.data.toList = x) : L.extract q L.size = toB (x.drop q) := by
  subst h
  apply ByteArray.ext
  apply Array.toList_inj.1
  rw [ByteArray.data_extract]
  simp [toB]
  exact List.take_of_length_le (by simp)
def PBox (w W : World) (t : TypeId) (k v : ByteArray) (s : Value) (wx : World) : Prop :=
  ∃ p : Nat, s = .pointer (some ⟨p, 0, none⟩) ∧ wx.heap[p]? = some (.cells #[.string k, .string v] t (0, 0)) ∧ w.heap.size ≤ p ∧ Below W.heap.size W wx
def anyK (out : List Pr) (k : ByteArray) : Bool := out.any fun p => p.1.data.toList == k.data.toList
theorem bool_t {g a e : Bool} (h : true = (!g || a)) : true = (!g || (a || e)) := by cases g <;> cases a <;> cases e <;> first | rfl | cases h
theorem bool_f {g a e : Bool} (h : false = (!g || a)) : e = (!g || (a || e)) := by cases g <;> cases a <;> cases e <;> first | rfl | cases h
theorem bool_bad {g a : Bool} (h : true = (!g || a)) : (g && !a) = false := by cases g <;> cases a <;> first | rfl | cases h
theorem bool_good {g a : Bool} (h : false = (!g || a)) : (g && !a) = true := by cases g <;> cases a <;> first | rfl | cases h
theorem anyK_take {out : List Pr} {r : Nat} (h : r < out.length) (k : ByteArray) : anyK (out.take (r + 1)) k = (anyK (out.take r) k || (out[r].1.toList == k.toList)) := by
  unfold anyK
  rw [List.take_succ_eq_append_getElem h, List.any_append, ByteArray.toList_eq, ByteArray.toList_eq]
  simp
set_option maxRecDepth 100000 in
set_option maxHeartbeats 20000000 in
theorem yget_any {S : Nat → Prop} (vb : Value) (b : List UInt8) (w : World) (hb : Bytes S w vb b) (h47 : b.length < 4294967281) : Calls Tryd.prog 27 #[vb] w (GetTo w (getP b)) := by
  obtain ⟨A, cA, rfl⟩ := Bytes.slice hb
  have Hb := Lib.hid hb
  have H47 := Lib.hid h47
  have hn63 : (b.length : Int) ≤ 9223372036854775806 := by omega
  clear hb h47
  by_cases hne : b = []
  · subst hne
    go_enter Tryd.func27, Tryd.ntmps27
    go_wp2_with fail
    go_loopw [4, 6] (fun o i wr => o = .slice none 0 0 ∧ i = .int .i64 0 ∧ wr = w) (fun _ _ _ => 0)
    case atStart => exact ⟨rfl, rfl, rfl⟩
    case round =>
      obtain ⟨rfl, rfl, rfl⟩ := hrel
      go_wp2_with fail
      go_ret2
      exact ⟨_, rfl, pairs_none _, Below.refl _ _⟩
  · have hpos : 0 < b.length := List.length_pos_iff.2 hne
    have hpos3 : (0 : Int) < b.length := by omega
    obtain ⟨b1, b2, b3, hv1, hn1, hc1, -, hab1, hcell1⟩ := RowAt.form Hb.out hpos
    injection hv1 with hv1 _ hv3
    subst hv1 hv3
    have hcl := hcell1 _ _ (byte_cell b (b.length - 1) (by omega))
    have hlast : b.getLastD 0 = b[b.length - 1] := by
      rw [List.getLastD_eq_getLast?, List.getLast?_eq_getElem?, List.getElem?_eq_getElem (by omega)]
      rfl
    have HC := Lib.hid hcell1
    have Hne := Lib.hid hne
    have hn1' := Lib.hid (And.intro hn1 hab1)
    clear hcell1 hn1 hab1
    by_cases hz : b.getLastD 0 = 0
    · have hz2 : b[b.length - 1].toNat = 0 := by rw [← hlast, hz]; rfl
      rw [hz2] at hcl
      have HZ := Lib.hid hz
      have hne0 : ¬ b.length = 0 := by omega
      clear hz hz2 hlast hne
      go_enter Tryd.func27, Tryd.ntmps27
      go_wp2_with fail
      go_loopw [4, 5, 6] (fun o a i wr => ∃ (j k : Nat) (ls : List (List UInt8)) (out : List Pr), a = .int .i64 j ∧ i = .int .i64 k ∧ j ≤ k ∧ k ≤ b.length ∧ out.length ≤ 64 ∧ Hid (LnAt b ls j k ∧ getRun ls = .ok out) ∧ Hid (wr.ownsRow w.heap.size 47 2 o out.length (pairCells out) ∧ Below w.heap.size w wr)) (fun _ _ i _ => b.length - (intOf i).toNat)
      case atStart => exact ⟨0, 0, [], [], rfl, rfl, Nat.le_refl _, Nat.zero_le _, Nat.zero_le _, Lib.hid ⟨ln_start b, rfl⟩, Lib.hid ⟨World.ownsRow_nil _ _ _ _, Below.refl _ _⟩⟩
      case round =>
        obtain ⟨j, k, ls, out, rfl, rfl, hjk, hk, ho64, HL, HO⟩ := hrel
        clear hcl
        by_cases hlt : k < b.length
        · have hlt3 : (k : Int) < b.length := by omega
          have hc := cell_keep HO.out.2 (HC.out _ _ (byte_cell b k hlt))
          have hbk : b[k]? = some b[k] := List.getElem?_eq_getElem hlt
          by_cases hz : b[k].toNat = 0
          · have hbz : b[k]? = some 0 := by rw [hbk]; congr 1; exact UInt8.toNat_inj.1 (by rw [hz]; rfl)
            rw [hz] at hc
            obtain ⟨A4, c4, rfl⟩ := RowAt.slice (RowAt.of_own HO.out.1)
            by_cases h64 : out.length = 64
            · have HE := Lib.hid (getP_at HL.out.1 hlt hbz HZ.out HL.out.2 (step64 h64))
              have h64' : (out.length : Int) = 64 := by omega
              clear hz hbk hbz h64
              go_wp2_with fail
              go_ret2
              rw [HE.out]
              exact ⟨_, rfl, pairs_none _, HO.out.2⟩
            · have h64' : ¬ (out.length : Int) = 64 := by omega
              have hnext := ln_zero HL.out.1 hlt hbz
              have hat := fun (e : Int) (hs : getStep (.ok out) ((b.take k).drop j) = .error e) => getP_at HL.out.1 hlt hbz HZ.out HL.out.2 hs
              have hsnoc := getRun_snoc ls ((b.take k).drop j)
              rw [HL.out.2] at hsnoc
              obtain ⟨a9, n9, c9, hB9, hn9, hrun9⟩ := bytes_lh (Bytes.keep Hb.out HO.out.2) (j : Int) (k : Int) (by omega) (by omega) (by omega)
              have hst9 := bytes_str hB9
              simp only [Int.toNat_natCast] at hB9 hn9 hst9
              obtain ⟨x, hx⟩ : ∃ x, (b.take k).drop j = x := ⟨_, rfl⟩
              rw [hx] at hnext hat hsnoc hst9
              have hxl : x.length < 4294967281 := by rw [← hx]; simp; have := H47.out; omega
              obtain ⟨L, hL⟩ : ∃ L : ByteArray, (⟨x.toArray⟩ : ByteArray) = L := ⟨_, rfl⟩
              have hLx : L.data.toList = x := by rw [← hL]
              rw [hL] at hst9
              have hLs : L.size = x.length := by rw [← hLx]; simp
              have hL63 : (L.size : Int) ≤ 9223372036854775806 := by omega
              have HNX := Lib.hid (And.intro hnext (And.intro hat hsnoc))
              have HLX := Lib.hid (And.intro hLx hLs)
              have H64 := Lib.hid h64
              clear hz hbk hbz h64 hnext hat hsnoc hB9 hn9 hx hL hLx hLs
              go_wp2_with fail
              go_loop [8] (fun s8 => ∃ q : Nat, q ≤ L.size ∧ s8 = .int .i64 q ∧ Hid (∀ r, r < q → x[r]? ≠ some 61)) (fun s8 => L.size - (intOf s8).toNat)
              case atStart => exact ⟨0, Nat.zero_le _, rfl, Lib.hid (fun r hr => by omega)⟩
              case round =>
                obtain ⟨q, hq, rfl, HQ⟩ := hrel
                by_cases hqlt : q < L.size
                · have hqlt3 : (q : Int) < L.size := by omega
                  have hqx : q < x.length := by rw [← HLX.out.2]; exact hqlt
                  have hxq : x[q]? = some L[q] := by
                    rw [← HLX.out.1]
                    simp [ByteArray.getElem_eq_getElem_data]
                  by_cases he : (L[q].toNat : Int) = 61
                  · have hcut := cutE_at x q hqx HQ.out (by rw [hxq]; congr 1; exact UInt8.toNat_inj.1 (by show _ = 61; omega))
                    obtain ⟨kk, hkk⟩ : ∃ kk, toB (x.take q) = kk := ⟨_, rfl⟩
                    obtain ⟨vv, hvv⟩ : ∃ vv, toB (x.drop (q + 1)) = vv := ⟨_, rfl⟩
                    have e1 : L.extract 0 q = kk := by rw [← hkk]; exact ext_take L q x HLX.out.1
                    have e2 : L.extract (q + 1) L.size = vv := by rw [← hvv]; exact ext_drop L (q + 1) x HLX.out.1
                    have hks : kk.size ≤ 9223372036854775807 := by rw [← hkk, show (toB (x.take q)).size = (x.take q).length by simp [toB, ByteArray.size]]; simp; omega
                    have hvs : vv.size ≤ 9223372036854775807 := by rw [← hvv, show (toB (x.drop (q + 1))).size = (x.drop (q + 1)).length by simp [toB, ByteArray.size]]; simp; omega
                    have hK := fun W => ykey_any kk hks W
                    have hV := fun W => yval_any vv hvs W
                    have hbad := fun (hb : (pairOK (kk, vv) && !anyK out kk) = false) => HNX.out.2.1 11 (step_bad H64.out hcut (by rw [hkk, hvv]; rw [← hb, ← hkk]; rfl))
                    have hgood := fun (hb : (pairOK (kk, vv) && !anyK out kk) = true) => HNX.out.2.2.trans (step_good H64.out hcut (by rw [hkk, hvv]; rw [← hb, ← hkk]; rfl))
                    rw [hkk, hvv] at hgood
                    obtain ⟨a, ha⟩ : ∃ a, keyOK kk = a := ⟨_, rfl⟩
                    obtain ⟨b', hb'⟩ : ∃ b', valOK vv = b' := ⟨_, rfl⟩
                    have hpo : pairOK (kk, vv) = (a && b') := by rw [← ha, ← hb']; rfl
                    rw [hpo] at hbad hgood
                    rw [ha] at hK
                    rw [hb'] at hV
                    have HK := Lib.hid hK
                    have HV := Lib.hid hV
                    have HBAD := Lib.hid hbad
                    have HGOOD := Lib.hid hgood
                    have hq1 : ¬ ((q : Int) = L.size) := by omega
                    clear hcut hkk hvv hks hvs hK hV hbad hgood ha hb' hpo hxq hqx
                    go_upto_region 18 with fail
                    go_cut [9] (fun s9 wx => PBox wr wr 47 kk vv s9 wx)
                    case first =>
                      go_wp2_with fail
                      go_region
                      go_wp2_with fail
                      go_meet
                      exact ⟨_, rfl, blk_new _ _, Nat.le_refl _, below_drew1 (box_below _ _)⟩
                    case rest =>
                      rename World => WP
                      obtain ⟨p, rfl, hp, hpw, hbp⟩ := hcut
                      have HPB := Lib.hid (And.intro hp (And.intro hpw (below_then HO.out.2 hbp)))
                      have HOP := Lib.hid (own_keep HO.out.1 hbp)
                      have hpl := Lib.hid (Array.getElem?_eq_some_iff.1 hp).1
                      obtain ⟨y0, y1, -, -⟩ := cells2 hp
                      clear hp hpw e1 e2 hbp
                      go_upto_region 19 with fail
                      go_cut [10] (fun s10 wx => s10 = .bool (!(a && b')) ∧ wx = WP)
                      case first =>
                        cases a with
                        | false =>
                          go_wp2_with (go_at_call 40; refine (HK.out _).mono ?_; rintro _ w1 ⟨rfl, rfl⟩)
                          go_meet
                          exact ⟨rfl, rfl⟩
                        | true =>
                          go_wp2_with (first
                            | (go_at_call 40; refine (HK.out _).mono ?_; rintro _ w1 ⟨rfl, rfl⟩)
                            | (go_at_call 41; refine (HV.out _).mono ?_; rintro _ w2 ⟨rfl, rfl⟩))
                          go_meet
                          exact ⟨rfl, rfl⟩
                      case rest =>
                        obtain ⟨rfl, hwc⟩ := hcut
                        have hwc' := hwc.symm
                        clear hwc
                        subst hwc'
                        obtain ⟨g, hg⟩ : ∃ g, (a && b') = g := ⟨_, rfl⟩
                        rw [hg] at HBAD HGOOD
                        rw [hg]
                        clear hg HK HV
                        go_wp2_with fail
                        go_loopw [10, 11] (fun s10 s11 wx => ∃ r : Nat, r ≤ out.length ∧ s11 = .int .i64 r ∧ (∃ u : Bool, s10 = .bool u ∧ Hid (u = (!g || anyK (out.take r) kk))) ∧ Hid (Below WP.heap.size WP wx)) (fun _ s11 _ => out.length - (intOf s11).toNat)
                        case atStart => exact ⟨0, Nat.zero_le _, rfl, ⟨!g, rfl, Lib.hid (by simp [anyK])⟩, Lib.hid (Below.refl _ _)⟩
                        case round =>
                          rename World => WX
                          obtain ⟨r, hr, rfl, ⟨u, rfl, HU⟩, HW⟩ := hrel
                          by_cases hrlt : r < out.length
                          · have hrlt3 : (r : Int) < out.length := by omega
                            have HAT := Lib.hid (anyK_take hrlt kk)
                            cases u with
                            | true =>
                              have HU2 : Hid (true = (!g || anyK (out.take (r + 1)) kk)) := Lib.hid (by
                                rw [HAT.out]
                                exact bool_t HU.out)
                              clear HAT
                              go_wp2_with fail
                              go_region
                              go_wp2_with fail
                              exact ⟨⟨r + 1, hrlt, by go_num, ⟨true, rfl, HU2⟩, Lib.hid (below_drew1 HW.out)⟩, by simp [intOf]; omega⟩
                            | false =>
                              obtain ⟨d1, d2, d3, hv5, hn5, hc5, -, hab5, hcell5⟩ := RowAt.form (RowAt.of_own (own_keep HOP.out HW.out)) (by omega)
                              injection hv5 with hv5 _ hv6
                              subst hv5 hv6
                              obtain ⟨p0, -⟩ := pairCells_at out r hrlt
                              have z0 := hcell5 _ _ p0
                              obtain ⟨kr, hkr⟩ : ∃ kr, out[r].1 = kr := ⟨_, rfl⟩
                              rw [hkr] at z0 HAT
                              have y2 := cell_keep HW.out y0
                              obtain ⟨eq, heq⟩ : ∃ eq, (kr.toList == kk.toList) = eq := ⟨_, rfl⟩
                              have HU2 : Hid (eq = (!g || anyK (out.take (r + 1)) kk)) := Lib.hid (by
                                rw [HAT.out, heq]
                                exact bool_f HU.out)
                              clear HAT p0 hcell5 hn5 hab5 hkr
                              go_wp2_with fail
                              go_region
                              go_wp2_with fail
                              exact ⟨⟨r + 1, hrlt, by go_num, ⟨eq, rfl, HU2⟩, Lib.hid (below_drew1 HW.out)⟩, by simp [intOf]; omega⟩
                          · obtain rfl : r = out.length := by omega
                            have hu := HU.out
                            rw [List.take_length] at hu
                            have HW2 := Lib.hid (below_then HPB.out.2.2 HW.out)
                            cases u with
                            | true =>
                              have HE := Lib.hid (HBAD.out (bool_bad hu))
                              clear hu HU
                              go_wp2_with fail
                              go_ret2
                              rw [HE.out]
                              exact ⟨_, rfl, pairs_none _, HW2.out⟩
                            | false =>
                              have HG := Lib.hid (HGOOD.out (bool_good hu))
                              have HO2 := Lib.hid (own_keep HOP.out HW.out)
                              obtain ⟨y2, y3, -, -⟩ := cells2 (blk_keep HW.out HPB.out.1)
                              obtain ⟨i0, hi, hz0, hz1, hz2⟩ := info_parts infoRPair
                              have Hi := Lib.hid (And.intro hi (And.intro hz0 (And.intro hz1 hz2)))
                              have hone : ∀ u ∈ ([.string kk, .string vv] : List Value), u.oneCell' = true := by simp [Value.oneCell']
                              have Hone := Lib.hid hone
                              have h5 := Lib.hid (show out.length + 1 ≤ maxLen by simp [maxLen]; omega)
                              have h6 := Lib.hid (show (out.length + 1) * 32 ≤ 140737488355328 by omega)
                              have hlo : out.length + 1 ≤ 64 := by have := H64.out; omega
                              clear hu HU hi hz0 hz1 hz2 hone
                              go_wp2_with (at_builtin; refine wpList_append_lies _ rfl (.tmp 97) (.tmp 99) 30 rfl w.heap.size 47 i0 (.agg #[.string ⟨#[]⟩, .string ⟨#[]⟩]) 2 32 Tryd.underlying30 Hi.out.1 Hi.out.2.1 Hi.out.2.2.1 Hi.out.2.2.2 rfl (by decide) (.slice A4 out.length c4) out.length (pairCells out) rfl (World.ownsRow.alloc HO2.out _) ⟨WX.heap.size, 0, none⟩ 1 1 [.string kk, .string vv] rfl rfl (World.news_of_block (blk_new _ _)) Hone.out (by decide) h5.out h6.out (by have := HW2.out.size; simp; omega) _ rfl ?_; intro g3 cap3 w15 hown3 hg3 _ _; have HP := Lib.hid (And.intro hown3 (below_push HW2.out HO2.out (box_below _ _) hg3)); clear hown3 hg3)
                              go_roundw
                              case rel =>
                                refine ⟨k + 1, k + 1, ls ++ [x], out ++ [(kk, vv)], by go_num, by go_num, Nat.le_refl _, hlt, by simpa using hlo, Lib.hid ⟨HNX.out.1, HG.out⟩, Lib.hid ⟨?_, HP.out.2⟩⟩
                                rw [pairCells_append, List.length_append]
                                exact HP.out.1
                              case measure => simp [intOf]; omega
                  · have he2 : ((L[q].toNat : Int) == 61) = false := by simpa using he
                    have HQ2 : Hid (∀ r, r < q + 1 → x[r]? ≠ some 61) := Lib.hid (by
                      intro r hr
                      by_cases e : r = q
                      · rw [e, hxq]; intro h; injection h with h; exact he (by rw [h]; rfl)
                      · exact HQ.out r (by omega))
                    clear hxq hqx
                    go_wp2_with fail
                    go_round
                    case rel => exact ⟨q + 1, hqlt, by go_num, HQ2⟩
                    case measure => simp [intOf]; omega
                · obtain rfl : q = L.size := by omega
                  have hn := cutE_none x (fun r => by
                    by_cases hr : r < x.length
                    · exact HQ.out r (by rw [HLX.out.2]; exact hr)
                    · rw [List.getElem?_eq_none (by omega)]; simp)
                  have HE := Lib.hid (HNX.out.2.1 11 (step_form H64.out hn))
                  clear hn
                  go_wp2_with fail
                  go_ret2
                  rw [HE.out]
                  exact ⟨_, rfl, pairs_none _, HO.out.2⟩
          · have HN := Lib.hid (ln_other HL.out.1 hlt (by rw [hbk]; intro e; injection e with e; exact hz (by rw [e]; rfl)))
            have hz2 : ¬ (b[k].toNat : Int) = 0 := by omega
            have hz3 : ((b[k].toNat : Int) == 0) = false := by simpa using hz2
            obtain ⟨z, hzz⟩ : ∃ z : Int, (b[k].toNat : Int) = z := ⟨_, rfl⟩
            rw [hzz] at hc hz2 hz3
            clear hz hbk hzz
            go_wp2_with fail
            go_roundw
            case rel => exact ⟨j, k + 1, ls, out, rfl, by go_num, by omega, hlt, ho64, Lib.hid ⟨HN.out, HL.out.2⟩, HO⟩
            case measure => simp [intOf]; omega
        · obtain rfl : k = b.length := by omega
          have HE := Lib.hid (show getP b = (out, 0) by rw [getP_run Hne.out HZ.out, ln_end HL.out.1 Hne.out HZ.out, HL.out.2]; rfl)
          go_wp2_with fail
          go_ret2
          rw [HE.out]
          exact ⟨_, rfl, RowAt.of_own HO.out.1, HO.out.2⟩
    · have hz2 : ¬ (b[b.length - 1].toNat : Int) = 0 := by
        intro e
        apply hz
        rw [hlast]
        exact UInt8.toNat_inj.1 (by show _ = 0; omega)
      have HG := Lib.hid (getP_short hne hz)
      have hz3 : ((b[b.length - 1].toNat : Int) == 0) = false := by simpa using hz2
      obtain ⟨z, hzz⟩ : ∃ z : Int, (b[b.length - 1].toNat : Int) = z := ⟨_, rfl⟩
      rw [hzz] at hcl hz2 hz3
      clear hz hlast hne hzz
      go_enter Tryd.func27, Tryd.ntmps27
      go_wp2_with fail
      go_ret2
      rw [HG.out]
      exact ⟨_, rfl, pairs_none _, Below.refl _ _⟩
end Go.Proofs.YtmehjcimohhopaaDoor
