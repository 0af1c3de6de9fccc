/- A talk: the program's, walked. No statement is proved here. -/
import Derived.Test.YtmehjcimohhopaaDoorTxtN
import Derived.Test.YtmehjcimohhopaaDoorTxtP
import Derived.WalkMore
import Derived.Deep.DeepCutAuto
import Derived.Deep.CutBlock
import Derived.Deep.RegionWith
import Derived.Laws.Rows
namespace Go.Proofs.YtmehjcimohhopaaDoor
open Go.RowKit

def zeroPar : Par := ⟨false, false, 0, 0, 0, 0, false, false, false, ⟨#[]⟩, ⟨#[]⟩⟩
def parV (p : Par) : Value := .agg (parCells p)
/-- What a talk comes to. -/
def TalkTo (w : World) (r : List Pr × Par × Int) (e : Ending) (w' : World) : Prop :=
  ∃ v, e = .returned (.tuple #[v, parV r.2.1, .int .i64 r.2.2]) ∧ PairsAt (w.heap.size ≤ ·) w' v r.1 ∧ Below w.heap.size w w'

/-- The state of a talk's walk: the parameters as they came in block B, the result's in B + 1, those of now in B + 2; what is told in a row of its own. -/
def Tk (w wr : World) (P : Par) (st : List Pr × Par) (vo : Value) : Prop :=
  wr.heap[w.heap.size]? = some (.cells (parCells P) 32 (0, 0)) ∧ wr.heap[w.heap.size + 1]? = some (.cells (parCells zeroPar) 32 (0, 0)) ∧ wr.heap[w.heap.size + 2]? = some (.cells (parCells st.2) 32 (0, 0)) ∧
  wr.ownsRow (w.heap.size + 3) 46 2 vo st.1.length (pairCells st.1) ∧ Below w.heap.size w wr ∧ (in64 st.2.bu ∧ in64 st.2.fi)

theorem tk_after {w wr W : World} {P Q : Par} {st : List Pr × Par} {vo : Value} (h : Tk w wr P st vo) (hg : wr.grownBy W (some (w.heap.size + 2))) (hh : W.heap[w.heap.size + 2]? = some (.cells (parCells Q) 32 (0, 0))) (hin : in64 Q.bu ∧ in64 Q.fi) : Tk w W P (st.1, Q) vo := by
  obtain ⟨h0, h1, h2, h3, h4, -⟩ := h
  refine ⟨grown_blk hg (by intro e; injection e with e; omega) h0, grown_blk hg (by intro e; injection e with e; omega) h1, hh, h3.kept hg ?_, h4.grown hg h4.size (by intro k hk; injection hk with hk; omega), hin⟩
  cases hv : vo.ownBlock with
  | none => exact .inl rfl
  | some k =>
    right
    intro e
    injection e with e
    have := own_blk_ge h3 k hv
    omega

theorem tk_push {w wc W1 W2 : World} {P : Par} {st : List Pr × Par} {vo : Value} {g cap : Nat} {k v : ByteArray} (h : Tk w wc P st vo) (hb : Below wc.heap.size wc W1)
    (hn : W2.ownsRow (w.heap.size + 3) 46 2 (.slice (some ⟨g, 0, none⟩) (st.1.length + 1) cap) (st.1.length + 1) (pairCells st.1 ++ [.string k, .string v])) (hg : W1.grownBy W2 vo.ownBlock) :
    Tk w W2 P (st.1 ++ [(k, v)], st.2) (.slice (some ⟨g, 0, none⟩) (st.1.length + 1) cap) := by
  obtain ⟨h0, h1, h2, h3, h4, h5⟩ := h
  have hge := own_blk_ge h3
  have hne : ∀ b, b ≤ w.heap.size + 2 → some b ≠ vo.ownBlock := by
    intro b hb e
    have := hge b e.symm
    omega
  refine ⟨grown_blk hg (hne _ (by omega)) (blk_keep hb h0), grown_blk hg (hne _ (by omega)) (blk_keep hb h1), grown_blk hg (hne _ (by omega)) (blk_keep hb h2), ?_, (below_then h4 hb).grown hg (below_then h4 hb).size (fun k hk => by have := hge k hk; omega), h5⟩
  have e : pairCells (st.1 ++ [(k, v)]) = pairCells st.1 ++ [.string k, .string v] := pairCells_append _ _
  show W2.ownsRow _ _ _ _ (st.1 ++ [(k, v)]).length (pairCells (st.1 ++ [(k, v)]))
  rw [e, List.length_append]
  exact hn

theorem talkRun_next {P Q : Par} {l : List Pr} {j : Nat} {st : List Pr × Par} {p : Pr} {a : Ans} (h : j < l.length) (hr : talkRun P (l.take j) = some st) (hp : l[j] = p) (hq : ansP st.2 p.1 p.2 = (Q, a)) (hok : a.ok = true) :
    talkRun P (l.take (j + 1)) = some (if a.told = true then st.1 ++ [(p.1, a.val)] else st.1, Q) := by
  rw [List.take_succ_eq_append_getElem h, talkRun_snoc, hr, hp]
  show (if (ansP st.2 p.1 p.2).2.ok = true then _ else _) = _
  rw [hq, if_pos hok]
theorem talkP_stop {P Q : Par} {l : List Pr} {j : Nat} {st : List Pr × Par} {p : Pr} {a : Ans} (h : j < l.length) (hr : talkRun P (l.take j) = some st) (hp : l[j] = p) (hq : ansP st.2 p.1 p.2 = (Q, a)) (hok : a.ok = false) :
    talkP P l = ([], P, 1) := by
  unfold talkP
  rw [talkRun_stop P l j h ?_]
  rw [hr, hp]
  show (if (ansP st.2 p.1 p.2).2.ok = true then _ else _) = _
  rw [hq, if_neg (by rw [hok]; decide)]
theorem talkP_end {P : Par} {l : List Pr} {st : List Pr × Par} (h : talkRun P l = some st) : talkP P l = (st.1, { st.2 with fi := if st.2.bu < st.2.fi then st.2.bu else st.2.fi }, 0) := by
  unfold talkP
  rw [h]

theorem set_par {W : World} {b : Nat} {x : Par} (h : W.heap[b]? = some (.cells (parCells x) 32 (0, 0))) (p : Par) :
    (((((((((((W.setCell ⟨b, 0, none⟩ (.bool p.hs)).setCell ⟨b, 1, none⟩ (.bool p.ds)).setCell ⟨b, 2, none⟩ (.int .i64 p.mo)).setCell ⟨b, 3, none⟩ (.int .i64 p.mi)).setCell ⟨b, 4, none⟩ (.int .i64 p.bu)).setCell ⟨b, 5, none⟩ (.int .i64 p.fi)).setCell ⟨b, 6, none⟩ (.bool p.asked)).setCell ⟨b, 7, none⟩ (.bool p.im)).setCell ⟨b, 8, none⟩ (.bool p.di)).setCell ⟨b, 9, none⟩ (.string p.ini)).setCell ⟨b, 10, none⟩ (.string p.tgt)).drew.heap[b]? = some (.cells (parCells p) 32 (0, 0)) := by
  rw [drew_heap]
  exact set11 h _ _ _ _ _ _ _ _ _ _ _
theorem below_par {n b : Nat} {w W : World} (h : Below n w W) (hn : n ≤ b) (p : Par) : Below n w (((((((((((W.setCell ⟨b, 0, none⟩ (.bool p.hs)).setCell ⟨b, 1, none⟩ (.bool p.ds)).setCell ⟨b, 2, none⟩ (.int .i64 p.mo)).setCell ⟨b, 3, none⟩ (.int .i64 p.mi)).setCell ⟨b, 4, none⟩ (.int .i64 p.bu)).setCell ⟨b, 5, none⟩ (.int .i64 p.fi)).setCell ⟨b, 6, none⟩ (.bool p.asked)).setCell ⟨b, 7, none⟩ (.bool p.im)).setCell ⟨b, 8, none⟩ (.bool p.di)).setCell ⟨b, 9, none⟩ (.string p.ini)).setCell ⟨b, 10, none⟩ (.string p.tgt)).drew := below_drew1 (below11 h hn _ _ _ _ _ _ _ _ _ _ _)

theorem own_par {W : World} {B b size n : Nat} {e : TypeId} {v : Value} {xs : List Value} (h : W.ownsRow B e size v n xs) (hb : b < B) (p : Par) : (((((((((((W.setCell ⟨b, 0, none⟩ (.bool p.hs)).setCell ⟨b, 1, none⟩ (.bool p.ds)).setCell ⟨b, 2, none⟩ (.int .i64 p.mo)).setCell ⟨b, 3, none⟩ (.int .i64 p.mi)).setCell ⟨b, 4, none⟩ (.int .i64 p.bu)).setCell ⟨b, 5, none⟩ (.int .i64 p.fi)).setCell ⟨b, 6, none⟩ (.bool p.asked)).setCell ⟨b, 7, none⟩ (.bool p.im)).setCell ⟨b, 8, none⟩ (.bool p.di)).setCell ⟨b, 9, none⟩ (.string p.ini)).setCell ⟨b, 10, none⟩ (.string p.tgt)).drew.ownsRow B e size v n xs :=
  World.ownsRow.drew (ownsRow_setCell_below (ownsRow_setCell_below (ownsRow_setCell_below (ownsRow_setCell_below (ownsRow_setCell_below (ownsRow_setCell_below (ownsRow_setCell_below (ownsRow_setCell_below (ownsRow_setCell_below (ownsRow_setCell_below (ownsRow_setCell_below h (a := ⟨b, 0, none⟩) hb (.bool p.hs)) (a := ⟨b, 1, none⟩) hb (.bool p.ds)) (a := ⟨b, 2, none⟩) hb (.int .i64 p.mo)) (a := ⟨b, 3, none⟩) hb (.int .i64 p.mi)) (a := ⟨b, 4, none⟩) hb (.int .i64 p.bu)) (a := ⟨b, 5, none⟩) hb (.int .i64 p.fi)) (a := ⟨b, 6, none⟩) hb (.bool p.asked)) (a := ⟨b, 7, none⟩) hb (.bool p.im)) (a := ⟨b, 8, none⟩) hb (.bool p.di)) (a := ⟨b, 9, none⟩) hb (.string p.ini)) (a := ⟨b, 10, none⟩) hb (.string p.tgt))
theorem set1_other {W : World} {b c k : Nat} {o : Obj} (h : W.heap[b]? = some o) (hn : b ≠ c) (u : Value) : (W.setCell ⟨c, k, none⟩ u).heap[b]? = some o := by
  simp [World.setCell, Array.getElem?_modify, h, Ne.symm hn]
theorem talkP_min {P : Par} {l : List Pr} {st : List Pr × Par} (h : talkRun P l = some st) : talkP P l = (st.1, { st.2 with fi := min st.2.fi st.2.bu }, 0) := by
  rw [talkP_end h, show (if st.2.bu < st.2.fi then st.2.bu else st.2.fi) = min st.2.fi st.2.bu by rw [Int.min_def]; split <;> split <;> omega]

theorem results_tct {P : Program} {fn : Func} {t p u : Tmp} {ty : TypeId} (h : fn.results = #[.tmp t, .cell p ty, .tmp u]) (tmps : Array Value) (w : World) (g : Nat) (t0 : TypeId) (cs : Array Value) (fr : Nat × Nat) (d : TypeDesc)
    (hp : tmps.getD p undef = .pointer (some ⟨g, 0, none⟩)) (hg : w.heap[g]? = some (.cells cs t0 fr))
    (hu : P.underlying ty = some d) (hd : (match d with | .struct _ | .array _ _ => true | _ => false) = true) (hi : (P.info? ty).map (·.size) = some cs.size) :
    (results fn tmps).run P w = .ok (.tuple #[tmps.getD t undef, .agg cs, tmps.getD u undef]) w := by
  have hp' : tmps[p]?.getD undef = .pointer (some ⟨g, 0, none⟩) := by simpa using hp
  simp [results, h, hp', asAddr, run_loadVar_row w g t0 ty cs fr d hg hu hd hi]
theorem talk_ret {tmps : Array Value} {W : World} {g : Nat} {cs : Array Value} (hp : tmps.getD 5 undef = .pointer (some ⟨g, 0, none⟩)) (hg : W.heap[g]? = some (.cells cs 32 (0, 0))) (hs : cs.size = 11) :
    (results Tryd.f17 tmps).run Tryd.prog W = .ok (.tuple #[tmps.getD 4 undef, .agg cs, tmps.getD 6 undef]) W :=
  results_tct rfl tmps W g 32 cs (0, 0) _ hp hg Tryd.underlying32 rfl (by rw [hs]; kernel_rfl)

set_option maxRecDepth 100000 in
set_option maxHeartbeats 2000000 in
theorem talk_any {S : Nat → Prop} (P : Par) (va : Value) (l : List Pr) (w : World) (hl : PairsAt S w va l) (h100 : l.length ≤ 4096) (hv : ∀ p ∈ l, p.2.size < 4294967281) (hm : Mx w) (hin : in64 P.bu ∧ in64 P.fi) :
    Calls Tryd.prog 17 #[parV P, va] w (TalkTo w (talkP P l)) := by
  obtain ⟨A, cA, rfl⟩ := hl.slice
  have Hl := Lib.hid (And.intro hl (And.intro hv (And.intro hm hin)))
  have hn : (l.length : Int) ≤ 4096 := by omega
  have H100 := Lib.hid h100
  clear hl h100 hv hm hin
  unfold parV parCells
  go_enter Tryd.func17, Tryd.ntmps17
  go_wp2_with fail
  go_step3
  go_wp2_with fail
  go_step3
  go_wp2_with fail
  have hT : Tk w (((w.alloc (.cells #[.bool P.hs, .bool P.ds, .int .i64 P.mo, .int .i64 P.mi, .int .i64 P.bu, .int .i64 P.fi, .bool P.asked, .bool P.im, .bool P.di, .string P.ini, .string P.tgt] 32)).alloc (.cells #[.bool false, .bool false, .int .i64 0, .int .i64 0, .int .i64 0, .int .i64 0, .bool false, .bool false, .bool false, .string ⟨#[]⟩, .string ⟨#[]⟩] 32)).alloc (.cells #[.bool P.hs, .bool P.ds, .int .i64 P.mo, .int .i64 P.mi, .int .i64 P.bu, .int .i64 P.fi, .bool P.asked, .bool P.im, .bool P.di, .string P.ini, .string P.tgt] 32)) P ([], P) (.slice none 0 0) := by
    refine ⟨?_, ?_, ?_, World.ownsRow_nil _ _ _ _, below_alloc (below_alloc (box_below _ _) _) _, Hl.out.2.2.2⟩
    · exact blk_alloc (blk_alloc (blk_new w _) _) _
    · have h := blk_alloc (blk_new (w.alloc (.cells #[.bool P.hs, .bool P.ds, .int .i64 P.mo, .int .i64 P.mi, .int .i64 P.bu, .int .i64 P.fi, .bool P.asked, .bool P.im, .bool P.di, .string P.ini, .string P.tgt] 32)) (.cells #[.bool false, .bool false, .int .i64 0, .int .i64 0, .int .i64 0, .int .i64 0, .bool false, .bool false, .bool false, .string ⟨#[]⟩, .string ⟨#[]⟩] 32)) (.cells #[.bool P.hs, .bool P.ds, .int .i64 P.mo, .int .i64 P.mi, .int .i64 P.bu, .int .i64 P.fi, .bool P.asked, .bool P.im, .bool P.di, .string P.ini, .string P.tgt] 32)
      rw [show (w.alloc (.cells #[.bool P.hs, .bool P.ds, .int .i64 P.mo, .int .i64 P.mi, .int .i64 P.bu, .int .i64 P.fi, .bool P.asked, .bool P.im, .bool P.di, .string P.ini, .string P.tgt] 32)).heap.size = w.heap.size + 1 by simp] at h
      exact h
    · have h := blk_new ((w.alloc (.cells #[.bool P.hs, .bool P.ds, .int .i64 P.mo, .int .i64 P.mi, .int .i64 P.bu, .int .i64 P.fi, .bool P.asked, .bool P.im, .bool P.di, .string P.ini, .string P.tgt] 32)).alloc (.cells #[.bool false, .bool false, .int .i64 0, .int .i64 0, .int .i64 0, .int .i64 0, .bool false, .bool false, .bool false, .string ⟨#[]⟩, .string ⟨#[]⟩] 32)) (.cells #[.bool P.hs, .bool P.ds, .int .i64 P.mo, .int .i64 P.mi, .int .i64 P.bu, .int .i64 P.fi, .bool P.asked, .bool P.im, .bool P.di, .string P.ini, .string P.tgt] 32)
      rw [show ((w.alloc (.cells #[.bool P.hs, .bool P.ds, .int .i64 P.mo, .int .i64 P.mi, .int .i64 P.bu, .int .i64 P.fi, .bool P.asked, .bool P.im, .bool P.di, .string P.ini, .string P.tgt] 32)).alloc (.cells #[.bool false, .bool false, .int .i64 0, .int .i64 0, .int .i64 0, .int .i64 0, .bool false, .bool false, .bool false, .string ⟨#[]⟩, .string ⟨#[]⟩] 32)).heap.size = w.heap.size + 2 by simp] at h
      exact h
  obtain ⟨W0, hW0⟩ : ∃ W, ((w.alloc (.cells #[.bool P.hs, .bool P.ds, .int .i64 P.mo, .int .i64 P.mi, .int .i64 P.bu, .int .i64 P.fi, .bool P.asked, .bool P.im, .bool P.di, .string P.ini, .string P.tgt] 32)).alloc (.cells #[.bool false, .bool false, .int .i64 0, .int .i64 0, .int .i64 0, .int .i64 0, .bool false, .bool false, .bool false, .string ⟨#[]⟩, .string ⟨#[]⟩] 32)).alloc (.cells #[.bool P.hs, .bool P.ds, .int .i64 P.mo, .int .i64 P.mi, .int .i64 P.bu, .int .i64 P.fi, .bool P.asked, .bool P.im, .bool P.di, .string P.ini, .string P.tgt] 32) = W := ⟨_, rfl⟩
  rw [hW0] at hT ⊢
  have HT := Lib.hid hT
  clear hT hW0
  go_loopw [8, 9] (fun vo i wr => ∃ (j : Nat) (st : List Pr × Par), j ≤ l.length ∧ i = .int .i64 j ∧ Hid (talkRun P (l.take j) = some st ∧ st.1.length ≤ j) ∧ Hid (Tk w wr P st vo)) (fun _ i _ => l.length - (intOf i).toNat)
  case atStart => exact ⟨0, ([], P), Nat.zero_le _, rfl, Lib.hid ⟨rfl, Nat.le_refl _⟩, HT⟩
  case round =>
    obtain ⟨j, st, hj, rfl, HR, HK⟩ := hrel
    by_cases hlt : j < l.length
    · have hlt2 : ¬ ((j : Int) = l.length) := by omega
      have hlt3 : (j : Int) < l.length := by omega
      obtain ⟨ab, ao, ac, hv1, hn1, hc1, -, hab, hcell⟩ := (Hl.out.1).form (by omega)
      injection hv1 with hv1 _ hv3
      subst hv1 hv3
      obtain ⟨⟨kk, vv⟩, hkv⟩ : ∃ p, l[j] = p := ⟨_, rfl⟩
      obtain ⟨p0, p1⟩ := pairCells_at l j hlt
      rw [hkv] at p0 p1
      have hbw := HK.out.2.2.2.2.1
      have Hx := Lib.hid (And.intro (hcell _ _ p0) (hcell _ _ p1))
      have x0 := cell_keep hbw (hcell _ _ p0)
      have x1 := cell_keep hbw (hcell _ _ p1)
      rw [← Nat.add_assoc] at x1
      have y0 := fun o => cell_keep (box_below wr o) x0
      have y1 := fun o => cell_keep (box_below wr o) x1
      have Hkv := Lib.hid hkv
      have hvs : vv.size < 4294967281 := by have := Hl.out.2.1 l[j] (List.getElem_mem hlt); rw [hkv] at this; exact this
      have hC : ∀ W, Below wr.heap.size wr W → Calls Tryd.prog 34 #[.pointer (some ⟨w.heap.size + 2, 0, none⟩), .string kk, .string vv] W (AnsTo W (w.heap.size + 2) (pc (ansP st.2 kk vv))) := fun W hW =>
        answer_any st.2 _ kk vv W (blk_keep hW HK.out.2.2.1) hvs (Hl.out.2.2.1.keep (below_then hbw hW)) HK.out.2.2.2.2.2
      obtain ⟨⟨Q, ⟨av, at_, ao_⟩⟩, hQ⟩ : ∃ r, ansP st.2 kk vv = r := ⟨_, rfl⟩
      rw [hQ] at hC
      have HQ := Lib.hid hQ
      have HC := Lib.hid hC
      have Hac := Lib.hid (And.intro hc1 hn1)
      have hj4 : (j : Int) ≤ 4096 := by omega
      clear hcell p0 p1 hkv hvs hC hQ hbw hc1 hn1 hab
      unfold AnsTo pc ansV at HC
      have Hsz := Lib.hid (Array.getElem?_eq_some_iff.1 HK.out.2.2.1).1
      have hqi := ansP_in st.2 kk vv HK.out.2.2.2.2.2
      rw [HQ.out] at hqi
      have Hqi := Lib.hid hqi
      clear hqi
      go_upto_region 6 with fail
      go_cut [10] (fun s10 wx => ∃ sd : Nat, s10 = .pointer (some ⟨sd, 0, none⟩) ∧ Hid (wx.heap[sd]? = some (.cells #[.string av, .bool at_, .bool ao_] 65 (0, 0)) ∧ w.heap.size + 2 < sd) ∧ Hid (Tk w wx P (st.1, Q) u8))
      case first =>
        go_region_law (go_simp; go_at_call 34; refine (HC.out _ (by repeat (first | exact Below.refl _ _ | assumption | refine below_drewN ?_ _ | refine Below.drew ?_ | refine below_then ?_ (by assumption) | refine below_alloc ?_ _))).mono ?_; rintro _ W1 ⟨rfl, hg, hh⟩; (first | (have hsd := grown_blk hg (b := wr.heap.size) (by intro h; injection h with h; have := Hsz.out; omega) (show _ = some (.cells #[.string ⟨#[]⟩, .bool false, .bool false] 65 (0, 0)) from blk_new wr _); obtain ⟨s0, s1, s2, t0, t1, t2⟩ := cells3 hsd; have Hsd := Lib.hid hsd; clear hsd) | have Hsd := Lib.hid trivial); have Hg := Lib.hid hg; have Hh := Lib.hid hh; clear hg hh)
        all_goals
          go_wp2_with fail
          go_meet
          first
            | (have hg1 := grown_belowR (show Below wr.heap.size wr wr.drew from below_drew1 (Below.refl _ _)) Hg.out (by intro k hk; injection hk with hk; have := Hsz.out; omega)
               have hg2 := grown_below hg1 (box_below W1 (.cells #[.string av, .bool at_, .bool ao_] 65))
               exact ⟨_, rfl, Lib.hid ⟨blk_new _ _, by have := hg1.size; have := Hsz.out; omega⟩, Lib.hid (tk_after HK.out hg2 (blk_alloc Hh.out _) Hqi.out)⟩)
            | (have hg1 := grown_belowR (show Below wr.heap.size wr (wr.alloc (.cells #[.string ⟨#[]⟩, .bool false, .bool false] 65)).drew from below_drew1 (box_below _ _)) Hg.out (by intro k hk; injection hk with hk; have := Hsz.out; omega)
               have hg2 := grown3 hg1 (Nat.le_refl _) (.string av) (.bool at_) (.bool ao_)
               exact ⟨_, rfl, Lib.hid ⟨set3 Hsd.out _ _ _, Hsz.out⟩, Lib.hid (tk_after HK.out hg2 (set3_other Hh.out (by have := Hsz.out; omega) _ _ _) Hqi.out)⟩)
      case rest =>
        obtain ⟨sd, rfl, Hsd, HK2⟩ := hcut
        obtain ⟨s0, s1, s2, -, -, -⟩ := cells3 Hsd.out.1
        clear HC y0 y1 x0 x1
        cases ao_ with
        | false =>
          obtain ⟨⟨e0, e1, e2, e3, e4, e5, e6, e7, e8, e9, e10⟩, -⟩ := cells11 HK2.out.1
          obtain ⟨⟨d0, d1, d2, d3, d4, d5, d6, d7, d8, d9, d10⟩, -⟩ := cells11 HK2.out.2.1
          obtain ⟨f0, f1, f2, f3, f4, f5, f6, f7, f8, f9, f10⟩ := frozen11 HK2.out.2.1
          go_wp2_with fail
          go_region
          go_wp2_with fail
          rw [Exit.noGoto_ret]
          refine bodyPost_ret (talk_ret (g := w.heap.size + 1) (cs := parCells P) rfl (set_par HK2.out.2.1 P) rfl) rfl ?_
          rw [talkP_stop hlt HR.out.1 Hkv.out HQ.out rfl]
          refine ⟨_, rfl, ?_, ?_⟩
          · exact RowAt.of_own (World.ownsRow_nil _ w.heap.size 46 _)
          · exact below_par HK2.out.2.2.2.2.1 (by omega) P
        | true =>
          cases at_ with
          | false =>
            go_wp2_with fail
            refine ⟨⟨j + 1, (st.1, Q), hlt, by go_num, Lib.hid ⟨?_, by have := HR.out.2; show st.1.length ≤ j + 1; omega⟩, HK2⟩, by simp [intOf]; omega⟩
            rw [talkRun_next hlt HR.out.1 Hkv.out HQ.out rfl]
            rfl
          | true =>
            have z0 := cell_keep HK2.out.2.2.2.2.1 Hx.out.1
            have z1 := cell_keep HK2.out.2.2.2.2.1 Hx.out.2
            rw [← Nat.add_assoc] at z1
            obtain ⟨i0, hi, hz0, hz1, hz2⟩ := info_parts infoPair
            have h5 : st.1.length + 1 ≤ maxLen := by have := HR.out.2; simp [maxLen]; omega
            have h6 : (st.1.length + 1) * 32 ≤ 140737488355328 := by have := HR.out.2; omega
            have hone : ∀ u ∈ ([.string kk, .string av] : List Value), u.oneCell' = true := by simp [Value.oneCell']
            have Hone := Lib.hid hone
            clear hone
            go_wp2_with fail
            go_region_law (
              refine step_append_lies _ rfl (.tmp 35) (.tmp 44) 35 rfl (w.heap.size + 3) 46 i0 (.agg #[.string ⟨#[]⟩, .string ⟨#[]⟩]) 2 32 Tryd.underlying35 hi hz0 hz1 hz2 rfl (by decide) u8 st.1.length (pairCells st.1) rfl (World.ownsRow.drew (World.ownsRow.alloc HK2.out.2.2.2.1 _)) ⟨wc.heap.size, 0, none⟩ 1 1 [.string kk, .string av] rfl rfl (World.news_of_block (blk_new _ _)) Hone.out (by decide) h5 h6 (by have := HK2.out.2.2.2.2.1.size; have := Hsd.out; have := (Array.getElem?_eq_some_iff.1 Hsd.out.1).1; simp; omega) _ rfl ?_
              intro g3 cap3 w15 hown3 hg3 hat3 hlt3
              have HP := Lib.hid (And.intro hown3 hg3)
              clear hown3 hg3 hat3 hlt3)
            all_goals
              go_wp2_with fail
              have hK3 : Tk w wc P (st.1, Q) u8 := HK2.out
              have hpush := tk_push (k := kk) (v := av) hK3 (below_drew1 (box_below wc (.cells #[.string kk, .string av] 46))) HP.out.1 HP.out.2
              refine ⟨⟨j + 1, (st.1 ++ [(kk, av)], Q), hlt, by go_num, Lib.hid ⟨?_, by have := HR.out.2; show (st.1 ++ [(kk, av)]).length ≤ j + 1; rw [List.length_append]; show st.1.length + 1 ≤ j + 1; omega⟩, Lib.hid hpush⟩, by simp [intOf]; omega⟩
              rw [talkRun_next hlt HR.out.1 Hkv.out HQ.out rfl]
              rfl
    · obtain rfl : j = l.length := by omega
      have Hlt := Lib.hid hlt
      clear hlt
      obtain ⟨⟨e0, e1, e2, e3, e4, e5, e6, e7, e8, e9, e10⟩, -⟩ := cells11 HK.out.2.2.1
      obtain ⟨⟨d0, d1, d2, d3, d4, d5, d6, d7, d8, d9, d10⟩, -⟩ := cells11 HK.out.2.1
      obtain ⟨f0, f1, f2, f3, f4, f5, f6, f7, f8, f9, f10⟩ := frozen11 HK.out.2.1
      obtain ⟨g0, g1, g2, g3, g4, g5, g6, g7, g8, g9, g10⟩ := frozen11 HK.out.2.2.1
      have hr : talkRun P l = some st := by have := HR.out.1; rwa [List.take_length] at this
      have Hr := Lib.hid (talkP_min hr)
      clear hr
      have hb64 := HK.out.2.2.2.2.2
      go_wp2_with fail
      go_region
      go_wp2_with fail
      rw [Exit.noGoto_ret]
      have hz := set1_other (k := 5) HK.out.2.1 (show w.heap.size + 1 ≠ w.heap.size + 1 + 1 by omega) (.int .i64 (min st.2.fi st.2.bu))
      refine bodyPost_ret (talk_ret (g := w.heap.size + 1) (cs := parCells { st.2 with fi := min st.2.fi st.2.bu }) rfl (set_par hz { st.2 with fi := min st.2.fi st.2.bu }) rfl) rfl ?_
      rw [Hr.out]
      refine ⟨_, rfl, ?_, ?_⟩
      · exact RowAt.mono (RowAt.of_own (own_par (ownsRow_setCell_below HK.out.2.2.2.1 (a := ⟨w.heap.size + 1 + 1, 5, none⟩) (show w.heap.size + 2 < w.heap.size + 3 by omega) _) (by omega) { st.2 with fi := min st.2.fi st.2.bu })) (fun b _ h => by omega)
      · exact below_par (HK.out.2.2.2.2.1.setCell (p := ⟨w.heap.size + 1 + 1, 5, none⟩) (show w.heap.size ≤ w.heap.size + 2 by omega) _) (by omega) { st.2 with fi := min st.2.fi st.2.bu }
end Go.Proofs.YtmehjcimohhopaaDoor
