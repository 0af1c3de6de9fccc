/- A talk: the reference's, walked. No statement is proved here. -/
import Derived.Test.YtmehjcimohhopaaDoorTxrD
import Derived.Laws.Rows
namespace Go.Proofs.YtmehjcimohhopaaDoor
open Go.RowKit

/-- The state of a talk's walk: the parameters as they came in block B, the result's in B + 1, those of now in B + 2; what is told in a row of its own. -/
def TkR (w wr : World) (P : Par) (st : List Pr × Par) (vo : Value) : Prop :=
  wr.heap[w.heap.size]? = some (.cells (parCells P) 29 (0, 0)) ∧ wr.heap[w.heap.size + 1]? = some (.cells (parCells zeroPar) 29 (0, 0)) ∧ wr.heap[w.heap.size + 2]? = some (.cells (parCells st.2) 29 (0, 0)) ∧
  wr.ownsRow (w.heap.size + 3) 47 2 vo st.1.length (pairCells st.1) ∧ Below w.heap.size w wr ∧ (in64 st.2.bu ∧ in64 st.2.fi)

theorem tkr_after {w wr W : World} {P Q : Par} {st : List Pr × Par} {vo : Value} (h : TkR w wr P st vo) (hg : wr.grownBy W (some (w.heap.size + 2))) (hh : W.heap[w.heap.size + 2]? = some (.cells (parCells Q) 29 (0, 0))) (hin : in64 Q.bu ∧ in64 Q.fi) : TkR w W P (st.1, Q) vo := by
  obtain ⟨h0, h1, h2, h3, h4, -⟩ := h
  refine ⟨grown_blk hg (by intro e; injection e with e; omega) h0, grown_blk hg (by intro e; injection e with e; omega) h1, hh, h3.kept hg ?_, h4.grown hg h4.size (by intro k hk; injection hk with hk; omega), hin⟩
  cases hv : vo.ownBlock with
  | none => exact .inl rfl
  | some k =>
    right
    intro e
    injection e with e
    have := own_blk_ge h3 k hv
    omega

theorem tkr_push {w wc W1 W2 : World} {P : Par} {st : List Pr × Par} {vo : Value} {g cap : Nat} {k v : ByteArray} (h : TkR w wc P st vo) (hb : Below wc.heap.size wc W1)
    (hn : W2.ownsRow (w.heap.size + 3) 47 2 (.slice (some ⟨g, 0, none⟩) (st.1.length + 1) cap) (st.1.length + 1) (pairCells st.1 ++ [.string k, .string v])) (hg : W1.grownBy W2 vo.ownBlock) :
    TkR w W2 P (st.1 ++ [(k, v)], st.2) (.slice (some ⟨g, 0, none⟩) (st.1.length + 1) cap) := by
  obtain ⟨h0, h1, h2, h3, h4, h5⟩ := h
  have hge := own_blk_ge h3
  have hne : ∀ b, b ≤ w.heap.size + 2 → some b ≠ vo.ownBlock := by
    intro b hb e
    have := hge b e.symm
    omega
  refine ⟨grown_blk hg (hne _ (by omega)) (blk_keep hb h0), grown_blk hg (hne _ (by omega)) (blk_keep hb h1), grown_blk hg (hne _ (by omega)) (blk_keep hb h2), ?_, (below_then h4 hb).grown hg (below_then h4 hb).size (fun k hk => by have := hge k hk; omega), h5⟩
  have e : pairCells (st.1 ++ [(k, v)]) = pairCells st.1 ++ [.string k, .string v] := pairCells_append _ _
  show W2.ownsRow _ _ _ _ (st.1 ++ [(k, v)]).length (pairCells (st.1 ++ [(k, v)]))
  rw [e, List.length_append]
  exact hn

theorem set_parR {W : World} {b : Nat} {x : Par} (h : W.heap[b]? = some (.cells (parCells x) 29 (0, 0))) (p : Par) :
    (((((((((((W.setCell ⟨b, 0, none⟩ (.bool p.hs)).setCell ⟨b, 1, none⟩ (.bool p.ds)).setCell ⟨b, 2, none⟩ (.int .i64 p.mo)).setCell ⟨b, 3, none⟩ (.int .i64 p.mi)).setCell ⟨b, 4, none⟩ (.int .i64 p.bu)).setCell ⟨b, 5, none⟩ (.int .i64 p.fi)).setCell ⟨b, 6, none⟩ (.bool p.asked)).setCell ⟨b, 7, none⟩ (.bool p.im)).setCell ⟨b, 8, none⟩ (.bool p.di)).setCell ⟨b, 9, none⟩ (.string p.ini)).setCell ⟨b, 10, none⟩ (.string p.tgt)).drew.heap[b]? = some (.cells (parCells p) 29 (0, 0)) := by
  rw [drew_heap]
  exact set11 h _ _ _ _ _ _ _ _ _ _ _
theorem ytalk_ret {tmps : Array Value} {W : World} {g : Nat} {cs : Array Value} (hp : tmps.getD 5 undef = .pointer (some ⟨g, 0, none⟩)) (hg : W.heap[g]? = some (.cells cs 29 (0, 0))) (hs : cs.size = 11) :
    (results Tryd.f20 tmps).run Tryd.prog W = .ok (.tuple #[tmps.getD 4 undef, .agg cs, tmps.getD 6 undef]) W :=
  results_tct rfl tmps W g 29 cs (0, 0) _ hp hg Tryd.underlying29 rfl (by rw [hs]; kernel_rfl)

set_option maxRecDepth 100000 in
set_option maxHeartbeats 2000000 in
theorem ytalk_any {S : Nat → Prop} (P : Par) (va : Value) (l : List Pr) (w : World) (hl : PairsAt S w va l) (h100 : l.length ≤ 4096) (hv : ∀ p ∈ l, p.2.size < 4294967281) (hin : in64 P.bu ∧ in64 P.fi) :
    Calls Tryd.prog 20 #[parV P, va] w (TalkTo w (talkP P l)) := by
  obtain ⟨A, cA, rfl⟩ := hl.slice
  have Hl := Lib.hid (And.intro hl (And.intro hv hin))
  have hn : (l.length : Int) ≤ 4096 := by omega
  have H100 := Lib.hid h100
  clear hl h100 hv hin
  unfold parV parCells
  go_enter Tryd.func20, Tryd.ntmps20
  go_wp2_with fail
  have hT : TkR w (((w.alloc (.cells #[.bool P.hs, .bool P.ds, .int .i64 P.mo, .int .i64 P.mi, .int .i64 P.bu, .int .i64 P.fi, .bool P.asked, .bool P.im, .bool P.di, .string P.ini, .string P.tgt] 29)).alloc (.cells #[.bool false, .bool false, .int .i64 0, .int .i64 0, .int .i64 0, .int .i64 0, .bool false, .bool false, .bool false, .string ⟨#[]⟩, .string ⟨#[]⟩] 29)).alloc (.cells #[.bool P.hs, .bool P.ds, .int .i64 P.mo, .int .i64 P.mi, .int .i64 P.bu, .int .i64 P.fi, .bool P.asked, .bool P.im, .bool P.di, .string P.ini, .string P.tgt] 29)) P ([], P) (.slice none 0 0) := by
    refine ⟨?_, ?_, ?_, World.ownsRow_nil _ _ _ _, below_alloc (below_alloc (box_below _ _) _) _, Hl.out.2.2⟩
    · exact blk_alloc (blk_alloc (blk_new w _) _) _
    · have h := blk_alloc (blk_new (w.alloc (.cells #[.bool P.hs, .bool P.ds, .int .i64 P.mo, .int .i64 P.mi, .int .i64 P.bu, .int .i64 P.fi, .bool P.asked, .bool P.im, .bool P.di, .string P.ini, .string P.tgt] 29)) (.cells #[.bool false, .bool false, .int .i64 0, .int .i64 0, .int .i64 0, .int .i64 0, .bool false, .bool false, .bool false, .string ⟨#[]⟩, .string ⟨#[]⟩] 29)) (.cells #[.bool P.hs, .bool P.ds, .int .i64 P.mo, .int .i64 P.mi, .int .i64 P.bu, .int .i64 P.fi, .bool P.asked, .bool P.im, .bool P.di, .string P.ini, .string P.tgt] 29)
      rw [show (w.alloc (.cells #[.bool P.hs, .bool P.ds, .int .i64 P.mo, .int .i64 P.mi, .int .i64 P.bu, .int .i64 P.fi, .bool P.asked, .bool P.im, .bool P.di, .string P.ini, .string P.tgt] 29)).heap.size = w.heap.size + 1 by simp] at h
      exact h
    · have h := blk_new ((w.alloc (.cells #[.bool P.hs, .bool P.ds, .int .i64 P.mo, .int .i64 P.mi, .int .i64 P.bu, .int .i64 P.fi, .bool P.asked, .bool P.im, .bool P.di, .string P.ini, .string P.tgt] 29)).alloc (.cells #[.bool false, .bool false, .int .i64 0, .int .i64 0, .int .i64 0, .int .i64 0, .bool false, .bool false, .bool false, .string ⟨#[]⟩, .string ⟨#[]⟩] 29)) (.cells #[.bool P.hs, .bool P.ds, .int .i64 P.mo, .int .i64 P.mi, .int .i64 P.bu, .int .i64 P.fi, .bool P.asked, .bool P.im, .bool P.di, .string P.ini, .string P.tgt] 29)
      rw [show ((w.alloc (.cells #[.bool P.hs, .bool P.ds, .int .i64 P.mo, .int .i64 P.mi, .int .i64 P.bu, .int .i64 P.fi, .bool P.asked, .bool P.im, .bool P.di, .string P.ini, .string P.tgt] 29)).alloc (.cells #[.bool false, .bool false, .int .i64 0, .int .i64 0, .int .i64 0, .int .i64 0, .bool false, .bool false, .bool false, .string ⟨#[]⟩, .string ⟨#[]⟩] 29)).heap.size = w.heap.size + 2 by simp] at h
      exact h
  obtain ⟨W0, hW0⟩ : ∃ W, ((w.alloc (.cells #[.bool P.hs, .bool P.ds, .int .i64 P.mo, .int .i64 P.mi, .int .i64 P.bu, .int .i64 P.fi, .bool P.asked, .bool P.im, .bool P.di, .string P.ini, .string P.tgt] 29)).alloc (.cells #[.bool false, .bool false, .int .i64 0, .int .i64 0, .int .i64 0, .int .i64 0, .bool false, .bool false, .bool false, .string ⟨#[]⟩, .string ⟨#[]⟩] 29)).alloc (.cells #[.bool P.hs, .bool P.ds, .int .i64 P.mo, .int .i64 P.mi, .int .i64 P.bu, .int .i64 P.fi, .bool P.asked, .bool P.im, .bool P.di, .string P.ini, .string P.tgt] 29) = W := ⟨_, rfl⟩
  rw [hW0] at hT ⊢
  have HT := Lib.hid hT
  clear hT hW0
  go_loopw [8, 9] (fun vo i wr => ∃ (j : Nat) (st : List Pr × Par), j ≤ l.length ∧ i = .int .i64 j ∧ Hid (talkRun P (l.take j) = some st ∧ st.1.length ≤ j) ∧ Hid (TkR w wr P st vo)) (fun _ i _ => l.length - (intOf i).toNat)
  case atStart => exact ⟨0, ([], P), Nat.zero_le _, rfl, Lib.hid ⟨rfl, Nat.le_refl _⟩, HT⟩
  case round =>
    obtain ⟨j, st, hj, rfl, HR, HK⟩ := hrel
    by_cases hlt : j < l.length
    · have hlt3 : (j : Int) < l.length := by omega
      obtain ⟨ab, ao, ac, hv1, hn1, hc1, -, hab, hcell⟩ := RowAt.form Hl.out.1 (by omega)
      injection hv1 with hv1 _ hv3
      subst hv1 hv3
      obtain ⟨⟨kk, vv⟩, hkv⟩ : ∃ p, l[j] = p := ⟨_, rfl⟩
      obtain ⟨p0, p1⟩ := pairCells_at l j hlt
      rw [hkv] at p0 p1
      have hbw := HK.out.2.2.2.2.1
      have Hx := Lib.hid (And.intro (hcell _ _ p0) (hcell _ _ p1))
      have x0 := cell_keep hbw (hcell _ _ p0)
      have x1 := cell_keep hbw (hcell _ _ p1)
      rw [← Nat.add_assoc] at x1
      have Hkv := Lib.hid hkv
      have hvs : vv.size < 4294967281 := by have := Hl.out.2.1 l[j] (List.getElem_mem hlt); rw [hkv] at this; exact this
      have hC : ∀ W, Below wr.heap.size wr W → Calls Tryd.prog 35 #[.pointer (some ⟨w.heap.size + 2, 0, none⟩), .string kk, .string vv] W (OneTo W (w.heap.size + 2) (ansP st.2 kk vv)) := fun W hW =>
        one_any st.2 _ kk vv W (blk_keep hW HK.out.2.2.1) hvs HK.out.2.2.2.2.2
      obtain ⟨⟨Q, ⟨av, at_, ao_⟩⟩, hQ⟩ : ∃ r, ansP st.2 kk vv = r := ⟨_, rfl⟩
      rw [hQ] at hC
      have HQ := Lib.hid hQ
      have HC := Lib.hid hC
      have Hac := Lib.hid (And.intro hc1 hn1)
      have hj4 : (j : Int) ≤ 4096 := by omega
      clear hcell p0 p1 hkv hvs hC hQ hbw hc1 hn1 hab
      have Hsz := Lib.hid (Array.getElem?_eq_some_iff.1 HK.out.2.2.1).1
      have hqi := ansP_in st.2 kk vv HK.out.2.2.2.2.2
      rw [HQ.out] at hqi
      have Hqi := Lib.hid hqi
      clear hqi
      go_upto_region 6 with fail
      go_cut [10, 11, 12] (fun s10 s11 s12 wx => s10 = .string av ∧ s11 = .bool at_ ∧ s12 = .bool ao_ ∧ Hid (TkR w wx P (st.1, Q) u8))
      case first =>
        go_region_law (go_simp; go_at_call 35; refine (HC.out _ (by repeat (first | exact Below.refl _ _ | assumption | refine below_drewN ?_ _ | refine Below.drew ?_ | refine below_then ?_ (by assumption) | refine below_alloc ?_ _))).mono ?_; rintro _ W1 ⟨rfl, hg, hh⟩; have Hg := Lib.hid hg; have Hh := Lib.hid hh; clear hg hh)
        all_goals
          go_wp2_with fail
          go_meet
          have hg1 := grown_belowR (show Below wr.heap.size wr wr.drew from below_drew1 (Below.refl _ _)) Hg.out (by intro k hk; injection hk with hk; have := Hsz.out; omega)
          exact ⟨rfl, rfl, rfl, Lib.hid (tkr_after HK.out hg1 Hh.out Hqi.out)⟩
      case rest =>
        obtain ⟨rfl, rfl, rfl, HK2⟩ := hcut
        clear HC x0 x1
        cases ao_ with
        | false =>
          obtain ⟨⟨e0, e1, e2, e3, e4, e5, e6, e7, e8, e9, e10⟩, -⟩ := cells11 HK2.out.1
          obtain ⟨⟨d0, d1, d2, d3, d4, d5, d6, d7, d8, d9, d10⟩, -⟩ := cells11 HK2.out.2.1
          obtain ⟨f0, f1, f2, f3, f4, f5, f6, f7, f8, f9, f10⟩ := frozen11 HK2.out.2.1
          go_wp2_with fail
          go_region
          go_wp2_with fail
          refine bodyPost_ret (ytalk_ret (g := w.heap.size + 1) (cs := parCells P) rfl (set_parR HK2.out.2.1 P) rfl) rfl ?_
          rw [talkP_stop hlt HR.out.1 Hkv.out HQ.out rfl]
          refine ⟨_, rfl, ?_, ?_⟩
          · exact RowAt.of_own (World.ownsRow_nil _ w.heap.size 47 _)
          · exact below_par HK2.out.2.2.2.2.1 (by omega) P
        | true =>
          cases at_ with
          | false =>
            go_wp2_with fail
            refine ⟨⟨j + 1, (st.1, Q), hlt, by go_num, Lib.hid ⟨?_, by have := HR.out.2; show st.1.length ≤ j + 1; omega⟩, HK2⟩, by simp [intOf]; omega⟩
            rw [talkRun_next hlt HR.out.1 Hkv.out HQ.out rfl]
            rfl
          | true =>
            have z0 := cell_keep HK2.out.2.2.2.2.1 Hx.out.1
            obtain ⟨i0, hi, hz0, hz1, hz2⟩ := info_parts infoRPair
            have h5 := Lib.hid (show st.1.length + 1 ≤ maxLen by have := HR.out.2; simp [maxLen]; omega)
            have h6 := Lib.hid (show (st.1.length + 1) * 32 ≤ 140737488355328 by have := HR.out.2; omega)
            have hone : ∀ u ∈ ([.string kk, .string av] : List Value), u.oneCell' = true := by simp [Value.oneCell']
            have Hone := Lib.hid hone
            have Hi := Lib.hid (And.intro hi (And.intro hz0 (And.intro hz1 hz2)))
            clear hone hi hz0 hz1 hz2
            go_wp2_with (at_builtin; go_loud (refine wpList_append_lies _ rfl (.tmp 39) (.tmp 47) 30 rfl (w.heap.size + 3) 47 i0 (.agg #[.string ⟨#[]⟩, .string ⟨#[]⟩]) 2 32 Tryd.underlying30 Hi.out.1 Hi.out.2.1 Hi.out.2.2.1 Hi.out.2.2.2 rfl (by decide) u8 st.1.length (pairCells st.1) rfl (World.ownsRow.alloc HK2.out.2.2.2.1 _) ⟨wc.heap.size, 0, none⟩ 1 1 [.string kk, .string av] rfl rfl (World.news_of_block (blk_new _ _)) Hone.out (by decide) h5.out h6.out (by have := (Array.getElem?_eq_some_iff.1 HK2.out.2.2.1).1; simp; omega) _ rfl ?_); intro g3 cap3 w15 hown3 hg3 hat3 hlt3; have HP := Lib.hid (And.intro hown3 hg3); clear hown3 hg3 hat3 hlt3)
            go_wp2_with fail
            have hK3 : TkR w wc P (st.1, Q) u8 := HK2.out
            have hpush := tkr_push (k := kk) (v := av) hK3 (box_below wc (.cells #[.string kk, .string av] 47)) HP.out.1 HP.out.2
            refine ⟨⟨j + 1, (st.1 ++ [(kk, av)], Q), hlt, by go_num, Lib.hid ⟨?_, by have := HR.out.2; show (st.1 ++ [(kk, av)]).length ≤ j + 1; rw [List.length_append]; show st.1.length + 1 ≤ j + 1; omega⟩, Lib.hid hpush⟩, by simp [intOf]; omega⟩
            rw [talkRun_next hlt HR.out.1 Hkv.out HQ.out rfl]
            rfl
    · obtain rfl : j = l.length := by omega
      have Hlt := Lib.hid hlt
      clear hlt
      obtain ⟨⟨e0, e1, e2, e3, e4, e5, e6, e7, e8, e9, e10⟩, -⟩ := cells11 HK.out.2.2.1
      obtain ⟨⟨d0, d1, d2, d3, d4, d5, d6, d7, d8, d9, d10⟩, -⟩ := cells11 HK.out.2.1
      obtain ⟨f0, f1, f2, f3, f4, f5, f6, f7, f8, f9, f10⟩ := frozen11 HK.out.2.1
      obtain ⟨g0, g1, g2, g3, g4, g5, g6, g7, g8, g9, g10⟩ := frozen11 HK.out.2.2.1
      have hr : talkRun P l = some st := by have := HR.out.1; rwa [List.take_length] at this
      have Hr := Lib.hid (talkP_end hr)
      clear hr
      have hb64 := HK.out.2.2.2.2.2
      by_cases hbf : st.2.fi < st.2.bu
      · have hm : (if st.2.bu < st.2.fi then st.2.bu else st.2.fi) = st.2.fi := if_neg (by omega)
        have Hm := Lib.hid hm
        clear hm
        go_wp2_with (go_at_call 36; refine (ylesser_lt _ _ _ hbf).mono ?_; rintro _ w1 ⟨rfl, rfl⟩)
        go_region
        go_wp2_with fail
        have hz := set1_other (k := 5) HK.out.2.1 (show w.heap.size + 1 ≠ w.heap.size + 1 + 1 by omega) (.int .i64 st.2.fi)
        refine bodyPost_ret (ytalk_ret (g := w.heap.size + 1) (cs := parCells { st.2 with fi := st.2.fi }) rfl (set_parR hz { st.2 with fi := st.2.fi }) rfl) rfl ?_
        rw [Hr.out, Hm.out]
        refine ⟨_, rfl, ?_, ?_⟩
        · exact RowAt.mono (RowAt.of_own (own_par (ownsRow_setCell_below HK.out.2.2.2.1 (a := ⟨w.heap.size + 1 + 1, 5, none⟩) (show w.heap.size + 2 < w.heap.size + 3 by omega) _) (by omega) { st.2 with fi := st.2.fi })) (fun b _ h => by omega)
        · exact below_par (HK.out.2.2.2.2.1.setCell (p := ⟨w.heap.size + 1 + 1, 5, none⟩) (show w.heap.size ≤ w.heap.size + 2 by omega) _) (by omega) { st.2 with fi := st.2.fi }
      · have hm : (if st.2.bu < st.2.fi then st.2.bu else st.2.fi) = st.2.bu := by split <;> omega
        have Hm := Lib.hid hm
        clear hm
        go_wp2_with (go_at_call 36; refine (ylesser_ge _ _ _ hbf).mono ?_; rintro _ w1 ⟨rfl, rfl⟩)
        go_region
        go_wp2_with fail
        have hz := set1_other (k := 5) HK.out.2.1 (show w.heap.size + 1 ≠ w.heap.size + 1 + 1 by omega) (.int .i64 st.2.bu)
        refine bodyPost_ret (ytalk_ret (g := w.heap.size + 1) (cs := parCells { st.2 with fi := st.2.bu }) rfl (set_parR hz { st.2 with fi := st.2.bu }) rfl) rfl ?_
        rw [Hr.out, Hm.out]
        refine ⟨_, rfl, ?_, ?_⟩
        · exact RowAt.mono (RowAt.of_own (own_par (ownsRow_setCell_below HK.out.2.2.2.1 (a := ⟨w.heap.size + 1 + 1, 5, none⟩) (show w.heap.size + 2 < w.heap.size + 3 by omega) _) (by omega) { st.2 with fi := st.2.bu })) (fun b _ h => by omega)
        · exact below_par (HK.out.2.2.2.2.1.setCell (p := ⟨w.heap.size + 1 + 1, 5, none⟩) (show w.heap.size ≤ w.heap.size + 2 by omega) _) (by omega) { st.2 with fi := st.2.bu }
end Go.Proofs.YtmehjcimohhopaaDoor
