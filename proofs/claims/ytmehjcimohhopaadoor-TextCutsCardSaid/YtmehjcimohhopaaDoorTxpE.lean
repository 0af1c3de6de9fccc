/- Pairs as bytes: the reference's, walked. No statement is proved here. -/
import Derived.Test.YtmehjcimohhopaaDoorTxpD
import Derived.Lib.AppendStr
namespace Go.Proofs.YtmehjcimohhopaaDoor
open Go.RowKit

theorem infoByte : (Tryd.prog.info? 5).map (fun i => (i.zero, i.size, i.bytes)) = some (some (.int .u8 0), 1, 1) := by kernel_rfl
set_option maxRecDepth 100000 in
set_option maxHeartbeats 1000000 in
theorem yput_any {S : Nat → Prop} (va : Value) (l : List Pr) (w : World) (hl : PairsAt S w va l) (hss : ∀ p ∈ l, p.1.size ≤ 9223372036854775807 ∧ p.2.size ≤ 9223372036854775807) : Calls Tryd.prog 25 #[va] w (PutTo w (putP l)) := by
  obtain ⟨A, cA, rfl⟩ := RowAt.slice hl
  have hmax := RowAt.le hl
  unfold maxLen at hmax
  have Hl := Lib.hid hl
  have HS := Lib.hid hss
  clear hl hss
  by_cases h64 : 64 < l.length
  · have h64' : (64 : Int) < l.length := by omega
    have HP := Lib.hid (putP_long h64)
    clear h64
    go_enter Tryd.func25, Tryd.ntmps25
    go_wp2_with fail
    go_ret2
    rw [HP.out]
    exact ⟨_, rfl, bytes_none _, Below.refl _ _⟩
  · have h64' : ¬ (64 : Int) < l.length := by omega
    obtain ⟨i0, hi, hz0, hz1, hz2⟩ := info_parts infoByte
    have Hi := Lib.hid (And.intro hi (And.intro hz0 (And.intro hz1 hz2)))
    clear hi hz0 hz1 hz2
    go_enter Tryd.func25, Tryd.ntmps25
    go_wp2_with fail
    go_loopw [4, 5] (fun o i wr => ∃ j : Nat, j ≤ l.length ∧ i = .int .i64 j ∧ Hid (wr.ownsRow w.heap.size 5 1 o (bytesL (l.take j)).length (byteCells (bytesL (l.take j))) ∧ Below w.heap.size w wr ∧ (l.take j).all pairOK = true)) (fun _ i _ => l.length - (intOf i).toNat)
    case atStart => exact ⟨0, Nat.zero_le _, rfl, Lib.hid ⟨World.ownsRow_nil _ _ _ _, Below.refl _ _, rfl⟩⟩
    case round =>
      obtain ⟨j, hj, rfl, HJ⟩ := hrel
      by_cases hlt : j < l.length
      · have hlt3 : (j : Int) < l.length := by omega
        obtain ⟨b1, b2, b3, hv1, hn1, hc1, -, hab1, hcell1⟩ := RowAt.form Hl.out (by omega)
        injection hv1 with hv1 _ hv3
        subst hv1 hv3
        obtain ⟨p0, p1⟩ := pairCells_at l j hlt
        have x0 := cell_keep HJ.out.2.1 (hcell1 _ _ p0)
        have x1 := cell_keep HJ.out.2.1 (hcell1 _ _ p1)
        rw [← Nat.add_assoc] at x1
        have hat := all_takeP hlt HJ.out.2.2
        have han := all_noP (l := l) hlt
        have hbt := bytesL_take l j hlt
        have hsz := HS.out _ (List.getElem_mem hlt)
        obtain ⟨⟨kk, vv⟩, hkv⟩ : ∃ p, l[j] = p := ⟨_, rfl⟩
        rw [hkv] at x0 x1 p0 p1 hat han hbt hsz
        have hK := fun W => ykey_any kk hsz.1 W
        have hV := fun W => yval_any vv hsz.2 W
        have hps := pair_sizes (k := kk) (v := vv)
        have hpo : pairOK (kk, vv) = (keyOK kk && valOK vv) := rfl
        obtain ⟨a, ha⟩ : ∃ a, keyOK kk = a := ⟨_, rfl⟩
        obtain ⟨b, hb⟩ : ∃ b, valOK vv = b := ⟨_, rfl⟩
        rw [ha, hb] at hpo
        rw [hpo] at hat han hps
        rw [ha] at hK
        rw [hb] at hV
        have HK := Lib.hid hK
        have HV := Lib.hid hV
        have HAT := Lib.hid hat
        have HAN := Lib.hid han
        have HBT := Lib.hid hbt
        have HPS := Lib.hid hps
        have Hx := Lib.hid (And.intro (hcell1 _ _ p0) (hcell1 _ _ p1))
        have hj64 : (j : Int) ≤ 64 := by omega
        have hbel := HJ.out.2.1
        clear hcell1 p0 p1 hkv hK hV hat han hbt hps hn1 hab1 ha hb hpo hsz
        cases a with
        | false =>
          have HN := Lib.hid (HAN.out rfl)
          clear HAN HAT HPS hbel
          go_wp2_with (go_at_call 40; refine (HK.out _).mono ?_; rintro _ W1 ⟨rfl, rfl⟩)
          go_ret2
          rw [putP_bad (by omega) HN.out]
          exact ⟨_, rfl, bytes_none _, HJ.out.2.1⟩
        | true =>
          cases b with
          | false =>
            have HN := Lib.hid (HAN.out rfl)
            clear HAN HAT HPS hbel
            go_wp2_with (first
              | (go_at_call 40; refine (HK.out _).mono ?_; rintro _ W1 ⟨rfl, rfl⟩)
              | (go_at_call 41; refine (HV.out _).mono ?_; rintro _ W1 ⟨rfl, rfl⟩))
            go_ret2
            rw [putP_bad (by omega) HN.out]
            exact ⟨_, rfl, bytes_none _, HJ.out.2.1⟩
          | true =>
            have HT := Lib.hid (HAT.out rfl)
            have HPS2 := Lib.hid (HPS.out rfl)
            have HL2 := Lib.hid (bytesL_len _ HJ.out.2.2)
            have h3 := Lib.hid (show (l.take j).length ≤ j from List.length_take_le _ _)
            clear HAN HAT HPS hbel
            go_wp2_with (first
              | (go_at_call 40; refine (HK.out _).mono ?_; rintro _ W1 ⟨rfl, rfl⟩)
              | (go_at_call 41; refine (HV.out _).mono ?_; rintro _ W1 ⟨rfl, rfl⟩)
              | (at_builtin; refine Lib.wpList_append_own_string _ rfl (.tmp 31) (.tmp 36) 48 9 rfl w.heap.size 5 i0 Tryd.underlying48 Tryd.underlying9 Hi.out.1 Hi.out.2.1 Hi.out.2.2.1 Hi.out.2.2.2 u4 _ _ rfl HJ.out.1 kk rfl (by have := HPS2.out; have := HL2.out; have := h3.out; unfold maxLen; omega) (by have := HPS2.out; have := HL2.out; have := h3.out; omega) HJ.out.2.1.size ?_; intro v1 w1 ho1 hg1 _; have H1 := Lib.hid (And.intro ho1 (below_push HJ.out.2.1 HJ.out.1 (Below.refl _ _) hg1)); clear ho1 hg1)
              | (at_builtin; refine wpList_append_lies _ rfl (.tmp 38) (.tmp 39) 48 rfl w.heap.size 5 i0 (.int .u8 0) 1 1 Tryd.underlying48 Hi.out.1 Hi.out.2.1 Hi.out.2.2.1 Hi.out.2.2.2 rfl (by decide) v1 _ _ rfl (World.ownsRow.alloc H1.out.1 _) ⟨w1.heap.size, 0, none⟩ 1 1 [.int .u8 61] rfl rfl (World.news_of_block (blk_new _ _)) (by simp [Value.oneCell']) (by decide) (by have := HPS2.out; have := HL2.out; have := h3.out; unfold maxLen; omega) (by have := HPS2.out; have := HL2.out; have := h3.out; omega) (by have := H1.out.2.size; simp; omega) _ rfl ?_; intro g2 c2 w2 ho2 hg2 _ _; have H2 := Lib.hid (And.intro ho2 (below_push H1.out.2 H1.out.1 (box_below _ _) hg2)); have y1 := cell_keep H2.out.2 Hx.out.2; rw [← Nat.add_assoc] at y1; clear ho2 hg2)
              | (at_builtin; refine Lib.wpList_append_own_string _ rfl (.tmp 41) (.tmp 46) 48 9 rfl w.heap.size 5 i0 Tryd.underlying48 Tryd.underlying9 Hi.out.1 Hi.out.2.1 Hi.out.2.2.1 Hi.out.2.2.2 _ _ _ rfl H2.out.1 vv rfl (by have := HPS2.out; have := HL2.out; have := h3.out; unfold maxLen; omega) (by have := HPS2.out; have := HL2.out; have := h3.out; omega) H2.out.2.size ?_; intro v3 w3 ho3 hg3 _; have H3 := Lib.hid (And.intro ho3 (below_push H2.out.2 H2.out.1 (Below.refl _ _) hg3)); clear ho3 hg3)
              | (at_builtin; refine wpList_append_lies _ rfl (.tmp 48) (.tmp 49) 48 rfl w.heap.size 5 i0 (.int .u8 0) 1 1 Tryd.underlying48 Hi.out.1 Hi.out.2.1 Hi.out.2.2.1 Hi.out.2.2.2 rfl (by decide) v3 _ _ rfl (World.ownsRow.alloc H3.out.1 _) ⟨w3.heap.size, 0, none⟩ 1 1 [.int .u8 0] rfl rfl (World.news_of_block (blk_new _ _)) (by simp [Value.oneCell']) (by decide) (by have := HPS2.out; have := HL2.out; have := h3.out; unfold maxLen; omega) (by have := HPS2.out; have := HL2.out; have := h3.out; omega) (by have := H3.out.2.size; simp; omega) _ rfl ?_; intro g4 c4 w4 ho4 hg4 _ _; have H4 := Lib.hid (And.intro ho4 (below_push H3.out.2 H3.out.1 (box_below _ _) hg4)); clear ho4 hg4))
            go_roundw
            case rel =>
              refine ⟨j + 1, hlt, by go_num, Lib.hid ⟨?_, H4.out.2, HT.out⟩⟩
              have e1 : (bytesL (l.take (j + 1))).length = (bytesL (l.take j)).length + kk.size + 1 + vv.size + 1 := by rw [HBT.out]; simp [lineL]; omega
              have e2 : byteCells (bytesL (l.take (j + 1))) = byteCells (bytesL (l.take j)) ++ Lib.strCells kk ++ [.int .u8 61] ++ Lib.strCells vv ++ [.int .u8 0] := by rw [HBT.out]; simp [byteCells, lineL, Lib.strCells]
              rw [e1, e2]
              exact H4.out.1
            case measure => simp [intOf]; omega
      · obtain rfl : j = l.length := by omega
        have HP := Lib.hid (putP_good (l := l) (by omega) (by have := HJ.out.2.2; rwa [List.take_length] at this))
        have hown := HJ.out.1
        rw [List.take_length] at hown
        have HO := Lib.hid hown
        clear hown
        go_wp2_with fail
        go_ret2
        rw [HP.out]
        exact ⟨_, rfl, RowAt.of_own HO.out, HJ.out.2.1⟩
end Go.Proofs.YtmehjcimohhopaaDoor
