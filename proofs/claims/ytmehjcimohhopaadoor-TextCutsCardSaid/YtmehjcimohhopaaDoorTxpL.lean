/- Bytes read as pairs: the program's, walked. No statement is proved here. -/
import Derived.Test.YtmehjcimohhopaaDoorTxpK
namespace Go.Proofs.YtmehjcimohhopaaDoor
open Go.RowKit

theorem mem_flat_len : ∀ (L : List (List UInt8)) (x : List UInt8), x ∈ L → x.length + 1 ≤ (L.flatMap (· ++ [0])).length
  | y :: L, x, h => by
    rw [List.flatMap_cons, List.length_append, List.length_append]
    rcases List.mem_cons.1 h with rfl | h
    · simp
    · have := mem_flat_len L x h
      omega
theorem flat_count : ∀ (L : List (List UInt8)), L.length ≤ (L.flatMap (· ++ [0])).length
  | [] => Nat.le_refl _
  | y :: L => by
    have := flat_count L
    rw [List.flatMap_cons, List.length_append, List.length_append, List.length_cons]
    show L.length + 1 ≤ y.length + 1 + (L.flatMap (· ++ [0])).length
    omega
theorem splitZ_sizes (l : List UInt8) : (splitZ l).length ≤ l.length + 1 ∧ ∀ x ∈ splitZ l, x.length ≤ l.length := by
  have h := splitZ_back l
  refine ⟨?_, fun x hx => ?_⟩
  · have := flat_count (splitZ l)
    rw [h] at this
    simpa using this
  · have := mem_flat_len (splitZ l) x hx
    rw [h] at this
    simp at this
    omega
theorem getRun_error {ls : List (List UInt8)} {j : Nat} {out : List Pr} {e : Int} (h : j < ls.length) (hr : getRun (ls.take j) = .ok out) (hs : getStep (.ok out) ls[j] = .error e) : getRun ls = .error e := by
  have e1 : ls = ls.take j ++ ls[j] :: ls.drop (j + 1) := by rw [← List.drop_eq_getElem_cons h, List.take_append_drop]
  rw [e1]
  exact getRun_stop _ _ _ e (by rw [hr]; exact hs)
theorem getRun_next {ls : List (List UInt8)} {j : Nat} {out q : List Pr} (h : j < ls.length) (hr : getRun (ls.take j) = .ok out) (hs : getStep (.ok out) ls[j] = .ok q) : getRun (ls.take (j + 1)) = .ok q := by
  rw [List.take_succ_eq_append_getElem h, getRun_snoc, hr, hs]
theorem split_zero (v : ByteArray) (w : World) (hs : v.size < 4294967281) (hm : Mx w) :
    Calls Tryd.prog 43 #[.string v, .string zeroS] w fun e w' => e = .returned (.slice (some ⟨w.heap.size, 0, none⟩) (wordsZ v).length (wordsZ v).length) ∧ Below w.heap.size w w' ∧ w'.heap[w.heap.size]? = some (.cells ((wordsZ v).map Value.string).toArray 9 (0, 0)) := by
  obtain ⟨m, hm⟩ := hm
  have hl : (wordsZ v).length = Lib.countB v zeroS + 1 := Lib.splitB_all zeroS (by decide) 0 _ v rfl
  refine (Tryd.strings_Split v zeroS m w hs hm (by decide)).mono ?_
  rintro _ w' ⟨rfl, rfl⟩
  rw [hl]
  exact ⟨rfl, box_below _ _, blk_new _ _⟩
theorem cut_any (v : ByteArray) (w : World) (hs : v.size < 4294967281) (hm : Mx w) :
    Calls Tryd.prog 44 #[.string v, .string eqS] w fun e w' => e = .returned (.tuple #[.string (toB (Lib.cut v.data.toList [61]).1), .string (toB (Lib.cut v.data.toList [61]).2.1), .bool (Lib.cut v.data.toList [61]).2.2]) ∧ Below w.heap.size w w' := by
  obtain ⟨m, hm⟩ := hm
  refine (Tryd.strings_Cut v eqS m w hs hm).mono ?_
  rintro _ w' ⟨rfl, n, rfl⟩
  exact ⟨rfl, below_drewN (Below.refl _ _) n⟩
set_option maxRecDepth 100000 in
set_option maxHeartbeats 20000000 in
theorem xget_any {S : Nat → Prop} (vb : Value) (b : List UInt8) (w : World) (hb : Bytes S w vb b) (h47 : b.length < 4294967281) (hm : Mx w) : Calls Tryd.prog 26 #[vb] w (GetTo w (getP b)) := by
  obtain ⟨A, cA, rfl⟩ := Bytes.slice hb
  by_cases hne : b = []
  · subst hne
    clear hb h47 hm
    go_enter Tryd.func26, Tryd.ntmps26
    go_wp2_with fail
    go_ret2
    exact ⟨_, rfl, pairs_none _, Below.refl _ _⟩
  · have hpos : 0 < b.length := List.length_pos_iff.2 hne
    have hpos3 : ¬ b.length = 0 := by omega
    have hst := bytes_str hb
    obtain ⟨h1, h2⟩ := suffix_zero hne
    have hcs := fun W => Tryd.strings_CutSuffix (toB b) zeroS W (by show b.toArray.size ≤ _; simp; omega)
    have hcs2 : ∀ W, Calls Tryd.prog 42 #[.string (toB b), .string ⟨#[0]⟩] W fun e w' => e = .returned (.tuple #[.string (toB (Lib.trimSuffix b [0])), .bool (Lib.hasSuffix b [0])]) ∧ W = w' := fun W => (hcs W).mono fun e w' ⟨he, hw⟩ => ⟨he, hw.symm⟩
    have hst2 : (convert 48 9 (.slice A b.length cA)).run Tryd.prog w = .ok (.string (toB b)) w := hst
    by_cases hz : b.getLastD 0 = 0
    · have hrun := getP_run hne hz
      rw [h2 hz, show Lib.hasSuffix b [0] = true by rw [h1, hz]; rfl] at hcs2
      obtain ⟨hs1, hs2⟩ := splitZ_sizes b.dropLast
      have hws := wordsZ_split _ (toB b.dropLast) (Nat.le_refl _)
      have hdl : b.dropLast.length ≤ b.length := by simp
      have hSp := fun W (hW : Mx W) => split_zero (toB b.dropLast) W (by show b.dropLast.toArray.size < _; simp; omega) hW
      obtain ⟨sv, hsv⟩ : ∃ sv, toB b.dropLast = sv := ⟨_, rfl⟩
      rw [toB_list] at hws
      obtain ⟨ws, hwz⟩ : ∃ ws, wordsZ (toB b.dropLast) = ws := ⟨_, rfl⟩
      rw [hwz] at hws hSp
      rw [hsv] at hSp hcs2
      obtain ⟨ls, hls⟩ : ∃ ls, splitZ b.dropLast = ls := ⟨_, rfl⟩
      rw [hls] at hrun hs1 hs2 hws
      have hlw : ws.length = ls.length := by rw [← hws]; simp
      have hwl : ∀ (j : Nat) (h : j < ws.length) (h' : j < ls.length), ws[j].data.toList = ls[j] := by
        intro j h h'
        subst hws
        simp
      have hwn : (ws.length : Int) ≤ 4294967282 := by omega
      have HRUN := Lib.hid hrun
      have HCS := Lib.hid hcs2
      have HSP := Lib.hid hSp
      have HWL := Lib.hid (And.intro hlw hwl)
      have HSZ := Lib.hid (And.intro hs2 (And.intro hdl h47))
      have Hm := Lib.hid hm
      clear hb h47 hm hne hst h1 h2 hcs hcs2 hz hrun hs1 hs2 hws hdl hSp hsv hwz hls hlw hwl
      go_enter Tryd.func26, Tryd.ntmps26
      go_wp2_with (first
        | (go_at_call 42; refine (HCS.out _).mono ?_; rintro _ w1 ⟨rfl, rfl⟩)
        | (go_at_call 43; refine (HSP.out _ Hm.out).mono ?_; rintro _ W2 ⟨rfl, hb2, hr2⟩; have HR := Lib.hid hr2; have HB := Lib.hid hb2; clear hb2 hr2))
      go_loopw [6, 27] (fun o i wr => ∃ (j : Nat) (out : List Pr), i = .int .i64 j ∧ j ≤ ws.length ∧ out.length ≤ 64 ∧ Hid (getRun (ls.take j) = .ok out) ∧ Hid (wr.ownsRow W2.heap.size 46 2 o out.length (pairCells out) ∧ Below w.heap.size w wr ∧ Below W2.heap.size W2 wr)) (fun _ i _ => ws.length - (intOf i).toNat)
      case atStart => exact ⟨0, [], rfl, Nat.zero_le _, Nat.zero_le _, Lib.hid rfl, Lib.hid ⟨World.ownsRow_nil _ _ _ _, HB.out, Below.refl _ _⟩⟩
      case round =>
        obtain ⟨j, out, rfl, hj, ho64, HJ, HO⟩ := hrel
        obtain ⟨A4, c4, rfl⟩ := RowAt.slice (RowAt.of_own HO.out.1)
        by_cases hlt : j < ws.length
        · have hlt3 : (j : Int) < ws.length := by omega
          have hls : j < ls.length := by rw [← HWL.out.1]; exact hlt
          have x0 := cell_keep HO.out.2.2 (word_at HR.out j hlt)
          have hwj := HWL.out.2 j hlt hls
          have hsz := HSZ.out.1 ls[j] (List.getElem_mem hls)
          have herr := fun (e : Int) (hs : getStep (.ok out) ls[j] = .error e) => show getP b = ([], e) by rw [HRUN.out, getRun_error hls HJ.out hs]; rfl
          have hnxt := fun (q : List Pr) (hs : getStep (.ok out) ls[j] = .ok q) => getRun_next hls HJ.out hs
          obtain ⟨wj, hw⟩ : ∃ wj, ws[j] = wj := ⟨_, rfl⟩
          obtain ⟨x, hx⟩ : ∃ x, ls[j] = x := ⟨_, rfl⟩
          rw [hw] at x0 hwj
          rw [hx] at hwj hsz herr hnxt
          have hws : wj.size < 4294967281 := by
            have h1 : wj.size = wj.data.toList.length := by simp
            rw [h1, hwj]
            have := HSZ.out.2
            omega
          have hC := fun W (hW : Mx W) => cut_any wj W hws hW
          rw [hwj] at hC
          have HE := Lib.hid herr
          have HX := Lib.hid hnxt
          have HMx := Lib.hid (Hm.out.keep HO.out.2.1)
          clear hw hx hwj hsz herr hnxt hls hws
          by_cases h64 : out.length = 64
          · have h64' : (out.length : Int) = 64 := by omega
            have HG := Lib.hid (HE.out 3 (step64 h64))
            clear h64 hC
            go_wp2_with fail
            go_ret2
            rw [HG.out]
            exact ⟨_, rfl, pairs_none _, HO.out.2.1⟩
          · have h64' : ¬ (out.length : Int) = 64 := by omega
            cases hcx : cutE x with
            | none =>
              rw [cut_none hcx] at hC
              have HC := Lib.hid hC
              have HG := Lib.hid (HE.out 11 (step_form h64 hcx))
              clear hC hcx h64
              go_wp2_with (go_at_call 44; refine (HC.out _ HMx.out).mono ?_; rintro _ W3 ⟨rfl, hb3⟩; have HB3 := Lib.hid hb3; clear hb3)
              go_ret2
              rw [HG.out]
              exact ⟨_, rfl, pairs_none _, below_alloc (below_alloc (below_then HO.out.2.1 HB3.out) _) _⟩
            | some kv =>
              obtain ⟨k0, v0⟩ := kv
              rw [cut_some hcx] at hC
              have hbad := fun (hb : (pairOK (toB k0, toB v0) && !anyK out (toB k0)) = false) => HE.out 11 (step_bad h64 hcx hb)
              have hgood := fun (hb : (pairOK (toB k0, toB v0) && !anyK out (toB k0)) = true) => HX.out _ (step_good h64 hcx hb)
              obtain ⟨kk, hkk⟩ : ∃ kk, toB k0 = kk := ⟨_, rfl⟩
              obtain ⟨vv, hvv⟩ : ∃ vv, toB v0 = vv := ⟨_, rfl⟩
              simp only at hC
              rw [hkk, hvv] at hC hbad hgood
              have hR := fun W => xright_any (kk, vv) W
              have hK := fun (T : Nat → Prop) (W : World) (c : Nat) (hp : PairsAt T W (.slice A4 out.length c4) out) (hc : W.heap[c]? = some (.cells #[.string kk] 9 (0, 0))) => contp_any (.slice A4 out.length c4) out c kk 9 W hp hc
              obtain ⟨g, hg⟩ : ∃ g, pairOK (kk, vv) = g := ⟨_, rfl⟩
              obtain ⟨a, ha⟩ : ∃ a, anyK out kk = a := ⟨_, rfl⟩
              rw [hg] at hR hbad hgood
              rw [ha] at hK hbad hgood
              have HC := Lib.hid hC
              have HRt := Lib.hid hR
              have HK := Lib.hid hK
              have HBAD := Lib.hid hbad
              have HGOOD := Lib.hid hgood
              have hlo : out.length + 1 ≤ 64 := by omega
              clear hC hR hK hbad hgood hcx hkk hvv hg ha h64
              cases g with
              | false =>
                have HG := Lib.hid (HBAD.out rfl)
                clear HBAD HGOOD
                go_wp2_with (first
                  | (go_at_call 44; refine (HC.out _ HMx.out).mono ?_; rintro _ W3 ⟨rfl, hb3⟩; have HB3 := Lib.hid (below_then HO.out.2.1 hb3); have HO3 := Lib.hid (own_keep HO.out.1 hb3); have H9 := Lib.hid (blk_alloc (blk_new W3 (.cells #[.string kk] 9)) (.cells #[.string kk, .string vv] 46)); have h12 := blk_new (W3.alloc (.cells #[.string kk] 9)) (.cells #[.string kk, .string vv] 46); rw [show (W3.alloc (.cells #[.string kk] 9)).heap.size = W3.heap.size + 1 by simp] at h12; have H12 := Lib.hid h12; have HB5 := Lib.hid (show Below W3.heap.size W3 ((W3.alloc (.cells #[.string kk] 9)).alloc (.cells #[.string kk, .string vv] 46)) from below_alloc (box_below _ _) _); have HB2 := Lib.hid (below_then HO.out.2.2 hb3); clear hb3 h12)
                  | (go_at_call 37; refine (HRt.out _).mono ?_; rintro _ W6 ⟨rfl, hb6⟩; have H9 := Lib.hid (blk_keep hb6 H9.out); have H12 := Lib.hid (blk_keep hb6 H12.out); have HB6 := Lib.hid (below_then HB5.out hb6); clear hb6))
                go_ret2
                rw [HG.out]
                exact ⟨_, rfl, pairs_none _, below_then HB3.out HB6.out⟩
              | true =>
                cases a with
                | true =>
                  have HG := Lib.hid (HBAD.out rfl)
                  clear HBAD HGOOD
                  go_wp2_with (first
                    | (go_at_call 44; refine (HC.out _ HMx.out).mono ?_; rintro _ W3 ⟨rfl, hb3⟩; have HB3 := Lib.hid (below_then HO.out.2.1 hb3); have HO3 := Lib.hid (own_keep HO.out.1 hb3); have H9 := Lib.hid (blk_alloc (blk_new W3 (.cells #[.string kk] 9)) (.cells #[.string kk, .string vv] 46)); have h12 := blk_new (W3.alloc (.cells #[.string kk] 9)) (.cells #[.string kk, .string vv] 46); rw [show (W3.alloc (.cells #[.string kk] 9)).heap.size = W3.heap.size + 1 by simp] at h12; have H12 := Lib.hid h12; have HB5 := Lib.hid (show Below W3.heap.size W3 ((W3.alloc (.cells #[.string kk] 9)).alloc (.cells #[.string kk, .string vv] 46)) from below_alloc (box_below _ _) _); have HB2 := Lib.hid (below_then HO.out.2.2 hb3); clear hb3 h12)
                    | (go_at_call 37; refine (HRt.out _).mono ?_; rintro _ W6 ⟨rfl, hb6⟩; have H9 := Lib.hid (blk_keep hb6 H9.out); have H12 := Lib.hid (blk_keep hb6 H12.out); have HB6 := Lib.hid (below_then HB5.out hb6); clear hb6)
                    | (go_at_call 45; refine (HK.out _ _ _ (RowAt.of_own (own_keep HO3.out HB6.out)) H9.out).mono ?_; rintro _ W7 ⟨rfl, hb7⟩; have HB7 := Lib.hid (below_then HB6.out hb7); obtain ⟨y2, y3, -, -⟩ := cells2 (blk_keep hb7 H12.out); clear hb7))
                  go_ret2
                  rw [HG.out]
                  exact ⟨_, rfl, pairs_none _, below_then HB3.out HB7.out⟩
                | false =>
                  have HG := Lib.hid (HGOOD.out rfl)
                  obtain ⟨i0, hi, hz0, hz1, hz2⟩ := info_parts infoPair
                  have Hi := Lib.hid (And.intro hi (And.intro hz0 (And.intro hz1 hz2)))
                  have hone : ∀ u ∈ ([.string kk, .string vv] : List Value), u.oneCell' = true := by simp [Value.oneCell']
                  have Hone := Lib.hid hone
                  have h5 := Lib.hid (show out.length + 1 ≤ maxLen by simp [maxLen]; omega)
                  have h6 := Lib.hid (show (out.length + 1) * 32 ≤ 140737488355328 by omega)
                  clear HBAD HGOOD hi hz0 hz1 hz2 hone
                  go_wp2_with (first
                    | (go_at_call 44; refine (HC.out _ HMx.out).mono ?_; rintro _ W3 ⟨rfl, hb3⟩; have HB3 := Lib.hid (below_then HO.out.2.1 hb3); have HO3 := Lib.hid (own_keep HO.out.1 hb3); have H9 := Lib.hid (blk_alloc (blk_new W3 (.cells #[.string kk] 9)) (.cells #[.string kk, .string vv] 46)); have h12 := blk_new (W3.alloc (.cells #[.string kk] 9)) (.cells #[.string kk, .string vv] 46); rw [show (W3.alloc (.cells #[.string kk] 9)).heap.size = W3.heap.size + 1 by simp] at h12; have H12 := Lib.hid h12; have HB5 := Lib.hid (show Below W3.heap.size W3 ((W3.alloc (.cells #[.string kk] 9)).alloc (.cells #[.string kk, .string vv] 46)) from below_alloc (box_below _ _) _); have HB2 := Lib.hid (below_then HO.out.2.2 hb3); clear hb3 h12)
                    | (go_at_call 37; refine (HRt.out _).mono ?_; rintro _ W6 ⟨rfl, hb6⟩; have H9 := Lib.hid (blk_keep hb6 H9.out); have H12 := Lib.hid (blk_keep hb6 H12.out); have HB6 := Lib.hid (below_then HB5.out hb6); clear hb6)
                    | (go_at_call 45; refine (HK.out _ _ _ (RowAt.of_own (own_keep HO3.out HB6.out)) H9.out).mono ?_; rintro _ W7 ⟨rfl, hb7⟩; have HB7 := Lib.hid (below_then HB6.out hb7); obtain ⟨y2, y3, -, -⟩ := cells2 (blk_keep hb7 H12.out); clear hb7)
                    | (at_builtin; refine wpList_append_lies _ rfl (.tmp 55) (.tmp 57) 35 rfl W2.heap.size 46 i0 (.agg #[.string ⟨#[]⟩, .string ⟨#[]⟩]) 2 32 Tryd.underlying35 Hi.out.1 Hi.out.2.1 Hi.out.2.2.1 Hi.out.2.2.2 rfl (by decide) (.slice A4 out.length c4) out.length (pairCells out) rfl (World.ownsRow.alloc (own_keep HO3.out HB7.out) _) ⟨W7.heap.size, 0, none⟩ 1 1 [.string kk, .string vv] rfl rfl (World.news_of_block (blk_new _ _)) Hone.out (by decide) h5.out h6.out (by have := HB2.out.size; have := HB7.out.size; simp; omega) _ rfl ?_; intro g3 cap3 w15 hown3 hg3 _ _; have HP := Lib.hid (And.intro hown3 (below_push (below_then HB2.out HB7.out) (own_keep HO3.out HB7.out) (box_below _ _) hg3)); clear hown3 hg3))
                  go_roundw
                  case rel =>
                    refine ⟨j + 1, out ++ [(kk, vv)], by go_num, hlt, by simpa using hlo, HG, Lib.hid ⟨?_, below_then HB.out HP.out.2, HP.out.2⟩⟩
                    rw [pairCells_append, List.length_append]
                    exact HP.out.1
                  case measure => simp [intOf]; omega
        · obtain rfl : j = ws.length := by omega
          have hr := HJ.out
          rw [HWL.out.1, List.take_length] at hr
          have HG := Lib.hid (show getP b = (out, 0) by rw [HRUN.out, hr]; rfl)
          clear hr
          go_wp2_with fail
          go_ret2
          rw [HG.out]
          exact ⟨_, rfl, RowAt.mono (RowAt.of_own HO.out.1) (fun _ _ h => Nat.le_trans HB.out.size h), HO.out.2.1⟩
    · have hg := getP_short hne hz
      rw [show Lib.hasSuffix b [0] = false by rw [h1]; simpa using hz] at hcs2
      have HG := Lib.hid hg
      have HCS := Lib.hid hcs2
      clear hb h47 hm hne hst h1 h2 hcs hcs2 hz hg
      go_enter Tryd.func26, Tryd.ntmps26
      go_wp2_with (go_at_call 42; refine (HCS.out _).mono ?_; rintro _ w1 ⟨rfl, rfl⟩)
      go_ret2
      rw [HG.out]
      exact ⟨_, rfl, pairs_none _, Below.refl _ _⟩
end Go.Proofs.YtmehjcimohhopaaDoor
