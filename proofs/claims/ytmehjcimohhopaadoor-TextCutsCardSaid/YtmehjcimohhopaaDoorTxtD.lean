/- A number's digits: both sides. No statement is proved here. -/
import Derived.Test.YtmehjcimohhopaaDoorTxtA
import Derived.Test.YtmehjcimohhopaaDoorTxtM
import Derived.RegionTactic
namespace Go.Proofs.YtmehjcimohhopaaDoor
open Go.RowKit

theorem byte_at (xs : List UInt8) (i : Nat) (h : i < xs.length) : (byteCells xs)[i]? = some (.int .u8 ((xs.getD i 0).toNat : Int)) := by
  rw [byteCells_get xs i h]
  simp [List.getD, List.getElem?_eq_getElem h]
theorem set_byte (xs : List UInt8) (i : Nat) (x : UInt8) : (byteCells xs).set i (.int .u8 (x.toNat : Int)) = byteCells (xs.set i x) := by
  unfold byteCells
  rw [List.map_set]

set_option maxRecDepth 100000 in
set_option maxHeartbeats 2000000 in
theorem rev_any (B g cap : Nat) (xs : List UInt8) (w : World) (hown : w.ownsRow B 5 1 (.slice (some ⟨g, 0, none⟩) xs.length cap) xs.length (byteCells xs)) (h47 : xs.length < 140737488355328) :
    Calls Tryd.prog 33 #[.slice (some ⟨g, 0, none⟩) xs.length cap] w fun e w' => (∃ v, e = .returned v) ∧ w'.ownsRow B 5 1 (.slice (some ⟨g, 0, none⟩) xs.length cap) xs.length (byteCells xs.reverse) ∧ w.grownBy w' (some g) := by
  have Hown := Lib.hid hown
  have H47 := Lib.hid h47
  obtain ⟨n, hn⟩ : ∃ n, n = xs.length := ⟨_, rfl⟩
  have Hn := Lib.hid hn
  rw [← hn] at h47 ⊢
  have hn1 : (n : Int) ≤ 9223372036854775806 := by omega
  clear hown hn h47
  go_enter Tryd.func33, Tryd.ntmps33
  go_wp2_with fail
  go_loopw [2, 3] (fun i j wr => ∃ (k : Nat) (ys : List UInt8), k ≤ n ∧ i = .int .i64 k ∧ j = .int .i64 ((n : Int) - 1 - k) ∧ Hid (ys.length = n ∧ ∀ i, i < n → ys.getD i 0 = if i < k ∨ n ≤ i + k then xs.getD (n - 1 - i) 0 else xs.getD i 0) ∧ Hid (wr.ownsRow B 5 1 (.slice (some ⟨g, 0, none⟩) n cap) n (byteCells ys)) ∧ Hid (w.grownBy wr (some g))) (fun i _ _ => n - (intOf i).toNat)
  case atStart =>
    refine ⟨0, xs, Nat.zero_le _, rfl, by simp, Lib.hid ⟨Hn.out.symm, fun i hi => ?_⟩, Lib.hid (by rw [Hn.out]; exact Hown.out), Lib.hid (grown_refl _ _)⟩
    rw [if_neg (by omega)]
  case round =>
    obtain ⟨k, ys, hk, rfl, rfl, Hys, Ho, Hg⟩ := hrel
    by_cases hlt : (k : Int) < (n : Int) - 1 - k
    · have hkn : k < n := by omega
      obtain ⟨j, hj⟩ : ∃ j : Nat, j = n - 1 - k := ⟨_, rfl⟩
      have hjn : j < n := by omega
      have hji : (n : Int) - 1 - k = j := by omega
      have hkj : k ≠ j := by omega
      rw [hji] at hlt ⊢
      have hbk := byte_at ys k (by rw [Hys.out.1]; exact hkn)
      have hbj := byte_at ys j (by rw [Hys.out.1]; exact hjn)
      obtain ⟨xa, hxa⟩ : ∃ x, x = ys.getD k 0 := ⟨_, rfl⟩
      obtain ⟨xb, hxb⟩ : ∃ x, x = ys.getD j 0 := ⟨_, rfl⟩
      rw [← hxa] at hbk
      rw [← hxb] at hbj
      obtain ⟨ck, fk⟩ := own_cell Ho.out hbk
      obtain ⟨cj, fj⟩ := own_cell Ho.out hbj
      have hkn2 : (k : Int) < n := by omega
      have hjn2 : (j : Int) < n := by omega
      have HJ := Lib.hid (And.intro hj (And.intro hxa hxb))
      clear hbk hbj hj hji hxa hxb
      go_wp2_with fail
      go_region
      go_wp2_with fail
      go_roundw
      case rel =>
        obtain ⟨hj, hxa, hxb⟩ := HJ.out
        have h1 := own_store Ho.out (i := k) hkn (.int .u8 (xb.toNat : Int))
        have h2 := own_store h1 (i := j) hjn (.int .u8 (xa.toNat : Int))
        rw [set_byte, set_byte] at h2
        refine ⟨k + 1, (ys.set k xb).set j xa, hkn, by go_num, by go_num, Lib.hid ⟨by simp [Hys.out.1], fun i hi => ?_⟩, Lib.hid (World.ownsRow.drew h2), Lib.hid (grown_below (grown_set (grown_set Hg.out _ _) _ _) (below_drew1 (Below.refl _ _)))⟩
        have hl := Hys.out.1
        have hik := Hys.out.2 i hi
        by_cases hij : i = j
        · subst hij
          have e : ((ys.set k xb).set i xa).getD i 0 = xa := by simp [List.getD, hl, hjn]
          rw [e, hxa, Hys.out.2 k hkn, if_neg (by omega), if_pos (by omega)]
          congr 1 <;> omega
        · by_cases hik2 : i = k
          · subst hik2
            have e : ((ys.set i xb).set j xa).getD i 0 = xb := by simp [List.getD, hl, hkn, Ne.symm hij]
            rw [e, hxb, Hys.out.2 j hjn, if_neg (by omega), if_pos (by omega)]
            congr 1 <;> omega
          · have e : ((ys.set k xb).set j xa).getD i 0 = ys.getD i 0 := by simp [List.getD, Ne.symm hij, Ne.symm hik2]
            rw [e, hik]
            by_cases hc : i < k ∨ n ≤ i + k
            · rw [if_pos hc, if_pos (by omega)]
            · rw [if_neg hc, if_neg (by omega)]
      case measure => simp [intOf]; omega
    · go_wp2_with fail
      go_end0
      refine ⟨⟨_, rfl⟩, ?_, Hg.out⟩
      have e : ys = xs.reverse := by
        apply List.ext_getElem?
        intro i
        by_cases hi : i < n
        · have h := Hys.out.2 i hi
          have hl := Hys.out.1
          have hn := Hn.out
          rw [List.getElem?_reverse (by omega)]
          have e1 : ys[i]? = some (ys.getD i 0) := by simp [List.getD, List.getElem?_eq_getElem (show i < ys.length by omega)]
          have e2 : xs[xs.length - 1 - i]? = some (xs.getD (n - 1 - i) 0) := by
            rw [hn]
            simp [List.getD, List.getElem?_eq_getElem (show xs.length - 1 - i < xs.length by omega)]
          rw [e1, e2, h]
          by_cases hc : i < k ∨ n ≤ i + k
          · rw [if_pos hc]
          · rw [if_neg hc]
            congr 2
            omega
        · rw [List.getElem?_eq_none (by rw [Hys.out.1]; omega), List.getElem?_eq_none (by rw [List.length_reverse, ← Hn.out]; omega)]
      rw [← e]
      exact Ho.out

theorem own_cap {w : World} {B n : Nat} {u : Value} {cs : List Value} (h : w.ownsRow B 5 1 u (n + 1) cs) : ∃ g cap, u = .slice (some ⟨g, 0, none⟩) (n + 1) cap := by
  rcases h.2 with ⟨_, h⟩ | ⟨g, cap, cur, h, _⟩
  · omega
  · exact ⟨g, cap, h⟩
theorem digP_of (n : Int) (h : ¬ (n < 0 ∨ 16777215 < n)) : digP n = (revD 8 n.toNat).reverse := by unfold digP; rw [if_neg h]

def boolN : Value → Nat
  | .bool true => 1
  | _ => 0

set_option maxRecDepth 100000 in
set_option maxHeartbeats 2000000 in
theorem xdigits_any (n : Int) (w : World) (_hn : in64 n) :
    Calls Tryd.prog 11 #[.int .i64 n] w fun e w' => e = .returned (.string ⟨(digP n).toArray⟩) ∧ Below w.heap.size w w' := by
  by_cases hr : n < 0 ∨ 16777215 < n
  · have e : digP n = [] := by unfold digP; rw [if_pos hr]
    rw [e]
    rcases hr with hr | hr
    · go_enter Tryd.func11, Tryd.ntmps11
      go_wp2_with fail
      go_ret
      exact ⟨rfl, Below.refl _ _⟩
    · have hr2 : ¬ n < 0 := by omega
      go_enter Tryd.func11, Tryd.ntmps11
      go_wp2_with fail
      go_ret
      exact ⟨rfl, Below.refl _ _⟩
  · rw [digP_of n hr]
    obtain ⟨i0, hi, hz0, hz1, hz2⟩ := info_parts infoU8
    have h0 : 0 ≤ n := by omega
    have h1 : n ≤ 16777215 := by omega
    have hlen := revD_len 8 n.toNat
    have Hlen := Lib.hid hlen
    clear hr _hn hlen
    go_enter Tryd.func11, Tryd.ntmps11
    go_wp2_with fail
    go_loopw [0, 3, 4] (fun s0 s3 s4 wr => ∃ (N : Int) (bs : List UInt8) (f : Nat) (ok : Bool), s0 = .int .i64 N ∧ s4 = .bool ok ∧ 0 ≤ N ∧ N ≤ 16777215 ∧ Hid (bs.length + f = 8 ∧ (ok = true → 1 ≤ f ∧ N.toNat < 10 ^ f ∧ bs ++ revD f N.toNat = revD 8 n.toNat) ∧ (ok = false → bs = revD 8 n.toNat ∧ bs ≠ [])) ∧ Hid (wr.ownsRow w.heap.size 5 1 s3 bs.length (byteCells bs)) ∧ Hid (Below w.heap.size w wr)) (fun s0 _ s4 _ => 2 * (intOf s0).toNat + boolN s4)
    case atStart => exact ⟨n, [], 8, true, rfl, rfl, h0, h1, Lib.hid ⟨rfl, fun _ => ⟨by omega, by omega, rfl⟩, fun h => by cases h⟩, Lib.hid (World.ownsRow_nil _ _ _ _), Lib.hid (Below.refl _ _)⟩
    case round =>
      obtain ⟨N, bs, f, ok, rfl, rfl, hN0, hN1, HI, Ho, Hb⟩ := hrel
      cases ok with
      | true =>
        obtain ⟨f, rfl⟩ : ∃ k, f = k + 1 := ⟨f - 1, by have := (HI.out.2.1 rfl).1; omega⟩
        have hbl : bs.length ≤ 8 := by have := HI.out.1; omega
        have Hbl := Lib.hid hbl
        clear hbl
        go_wp2_with (at_builtin; refine wpList_append_own_at _ rfl _ _ 48 rfl w.heap.size 5 i0 (.int .u8 0) 1 1 Tryd.underlying48 hi hz0 hz1 hz2 rfl (by decide) u3 bs.length (byteCells bs) rfl (own_keep Ho.out (box_below wr (.cells #[.int .u8 (48 + N % 10)] 5))) ⟨wr.heap.size, 0, none⟩ 1 1 [.int .u8 (48 + N % 10)] rfl rfl (cell_one _ _ _) (by simp [Value.oneCell']) (by have := Hbl.out; simp [maxLen]; omega) (by have := Hbl.out; simp; omega) (by have := Hb.out.size; simp; omega) ?_; intro u2 w2 hown2 hgr2 _ hat2)
        go_roundw
        case rel =>
          obtain ⟨hl, ht, -⟩ := HI.out
          obtain ⟨ht1, ht2, ht3⟩ := ht rfl
          have eD : revD (f + 1) N.toNat = UInt8.ofNat (48 + N.toNat % 10) :: (if N.toNat / 10 = 0 then [] else revD f (N.toNat / 10)) := rfl
          have eN : (N / 10).toNat = N.toNat / 10 := by omega
          refine ⟨N / 10, bs ++ [UInt8.ofNat (48 + N.toNat % 10)], f, decide (0 < N / 10), rfl, rfl, by omega, by omega, Lib.hid ⟨by simp; omega, fun hk => ?_, fun hk => ?_⟩, Lib.hid ?_, Lib.hid ?_⟩
          · have hp : 0 < N / 10 := by simpa using hk
            have hf : 1 ≤ f := by
              rcases Nat.eq_zero_or_pos f with rfl | h
              · exfalso; simp at ht2; omega
              · exact h
            refine ⟨hf, ?_, ?_⟩
            · rw [eN]; rw [Nat.pow_succ] at ht2; omega
            · rw [eN, List.append_assoc, ← ht3, eD, if_neg (by omega)]; rfl
          · have hp : ¬ 0 < N / 10 := by simpa using hk
            refine ⟨?_, by simp⟩
            rw [← ht3, eD, if_pos (by omega)]
          · have e : (48 : Int) + N % 10 = ((UInt8.ofNat (48 + N.toNat % 10)).toNat : Int) := by rw [ofNat_digit]; omega
            rw [e] at hown2
            rw [byteCells_append, List.length_append]
            exact hown2
          · exact (Hb.out.alloc Hb.out.size _).grown hgr2 (by have := Hb.out.size; simp; omega) (own_blk_ge Ho.out)
        case measure =>
          simp only [intOf, boolN]
          by_cases hp : 0 < N / 10
          · rw [show decide (0 < N / 10) = true by simpa using hp]
            show 2 * (N / 10).toNat + 1 < 2 * N.toNat + 1
            omega
          · rw [show decide (0 < N / 10) = false by simpa using hp]
            show 2 * (N / 10).toNat + 0 < 2 * N.toNat + 1
            omega
      | false =>
        obtain ⟨hl, -, hf⟩ := HI.out
        obtain ⟨he, hne⟩ := hf rfl
        obtain ⟨g, cap, rfl⟩ : ∃ g cap, u3 = .slice (some ⟨g, 0, none⟩) bs.length cap := by
          rcases Ho.out.2 with ⟨_, h⟩ | ⟨g, cap, cur, h, _⟩
          · exact absurd (List.eq_nil_of_length_eq_zero h) hne
          · exact ⟨g, cap, h⟩
        have HR := Lib.hid (rev_any w.heap.size g cap bs wr Ho.out (by omega))
        have He := Lib.hid he
        clear hl hf he hne
        go_wp2_with fail
        refine HR.out.mono ?_
        rintro _ W2 ⟨⟨v, rfl⟩, hown, hgr⟩
        have hst := bytes_str (v := .slice (some ⟨g, 0, none⟩) bs.length cap) (xs := bs.reverse) (by unfold Bytes; rw [List.length_reverse]; exact RowAt.of_own hown)
        have hb2 := Hb.out.grown hgr Hb.out.size (fun k hk => by injection hk with hk; subst hk; exact own_blk_ge Ho.out _ rfl)
        have HB2 := Lib.hid hb2
        clear hown hgr hb2
        go_wp2_with fail
        go_ret
        exact ⟨by rw [← He.out]; rfl, HB2.out⟩

theorem upD_len (n : Nat) : (upD n).length ≤ 8 := by
  unfold upD
  split
  · simp
  · rw [List.length_reverse]; exact revD_len 8 n

set_option maxRecDepth 100000 in
set_option maxHeartbeats 2000000 in
theorem ydigits_any (n : Int) (w : World) (_hn : in64 n) :
    Calls Tryd.prog 12 #[.int .i64 n] w fun e w' => e = .returned (.string ⟨(digP n).toArray⟩) ∧ Below w.heap.size w w' := by
  by_cases hr : n < 0 ∨ 16777215 < n
  · have e : digP n = [] := by unfold digP; rw [if_pos hr]
    rw [e]
    rcases hr with hr | hr
    · go_enter Tryd.func12, Tryd.ntmps12
      go_wp2_with fail
      go_ret
      exact ⟨rfl, Below.refl _ _⟩
    · have hr2 : ¬ n < 0 := by omega
      go_enter Tryd.func12, Tryd.ntmps12
      go_wp2_with fail
      go_ret
      exact ⟨rfl, Below.refl _ _⟩
  · rw [digP_of n hr]
    obtain ⟨i0, hi, hz0, hz1, hz2⟩ := info_parts infoU8
    have h0 : 0 ≤ n := by omega
    have h1 : n ≤ 16777215 := by omega
    clear hr _hn
    go_enter Tryd.func12, Tryd.ntmps12
    go_wp2_with fail
    go_loopw [3, 4, 5] (fun s3 s4 _ wr => ∃ (j : Nat) (bs : List UInt8), j ≤ 8 ∧ s4 = .int .i64 ((10 ^ j / 10 : Nat) : Int) ∧ Hid (bs.length ≤ 8 ∧ (1 ≤ j → bs = upD (n.toNat / 10 ^ j)) ∧ (j = 0 → bs = (revD 8 n.toNat).reverse)) ∧ Hid (wr.ownsRow w.heap.size 5 1 s3 bs.length (byteCells bs)) ∧ Hid (Below w.heap.size w wr)) (fun _ s4 _ _ => (intOf s4).toNat)
    case atStart =>
      refine ⟨8, [], by omega, rfl, Lib.hid ⟨by simp, fun _ => ?_, fun h => by omega⟩, Lib.hid (World.ownsRow_nil _ _ _ _), Lib.hid (Below.refl _ _)⟩
      unfold upD
      rw [if_pos (by omega)]
    case round =>
      obtain ⟨j, bs, hj, rfl, HI, Ho, Hb⟩ := hrel
      obtain ⟨A, c, rfl⟩ := (RowAt.of_own Ho.out).slice
      by_cases hj0 : j = 0
      · subst hj0
        have hbs := HI.out.2.2 rfl
        have hst := bytes_str (xs := bs) (v := .slice A bs.length c) (by unfold Bytes; exact RowAt.of_own Ho.out)
        have Hbs := Lib.hid hbs
        clear hbs
        go_wp2_with fail
        go_ret
        exact ⟨by rw [← Hbs.out]; rfl, Hb.out⟩
      · obtain ⟨i, rfl⟩ : ∃ i, j = i + 1 := ⟨j - 1, by omega⟩
        obtain ⟨q, hq⟩ : ∃ q, q = n.toNat / 10 ^ i := ⟨_, rfl⟩
        have hq10 : q / 10 = n.toNat / 10 ^ (i + 1) := by rw [hq, Nat.div_div_eq_div_mul, Nat.pow_succ]
        have hqlt : q < 10 ^ 8 := by rw [hq]; exact Nat.lt_of_le_of_lt (Nat.div_le_self _ _) (by omega)
        have hbs := HI.out.2.1 (by omega)
        rw [← hq10] at hbs
        have hpw : 10 ^ (i + 1) / 10 = 10 ^ i := by rw [Nat.pow_succ, Nat.mul_div_cancel _ (by decide)]
        have hle : 10 ^ i ≤ 10 ^ 7 := Nat.pow_le_pow_right (by decide) (by omega)
        have hpos : 0 < 10 ^ i := Nat.pow_pos (by decide)
        rw [hpw]
        obtain ⟨U, hU⟩ : ∃ U : Int, U = ((10 ^ i : Nat) : Int) := ⟨_, rfl⟩
        rw [← hU]
        have hU0 : 0 < U := by omega
        have hU1 : U ≤ 10000000 := by omega
        have hdiv : n / U = (q : Int) := by rw [hU, hq, Int.natCast_ediv, Int.toNat_of_nonneg h0]
        have hUi : (U = 1) ↔ i = 0 := by
          constructor
          · intro h
            rcases Nat.eq_zero_or_pos i with h2 | h2
            · exact h2
            · exfalso
              have : 10 ^ 1 ≤ 10 ^ i := Nat.pow_le_pow_right (by decide) h2
              omega
          · intro h; subst h; rw [hU]; rfl
        obtain ⟨V, hV⟩ : ∃ v : Int, n / U = v := ⟨_, rfl⟩
        rw [hV] at hdiv
        have hV0 : 0 ≤ V := by omega
        obtain ⟨DD, hDD⟩ : ∃ d : Int, V % 10 = d := ⟨_, rfl⟩
        have hDq : DD = ((q % 10 : Nat) : Int) := by rw [← hDD, hdiv]; omega
        have hUq : U / 10 = ((10 ^ i / 10 : Nat) : Int) := by rw [hU]; omega
        have HU := Lib.hid (And.intro hUq hU0)
        have Hq := Lib.hid hq
        have HQ := Lib.hid hDq
        have hD0 : 0 ≤ DD := by omega
        have hD1 : DD ≤ 9 := by omega
        clear hpw hle hpos hdiv hUq hDq hU
        by_cases hq0 : q = 0
        · have hb0 : bs = [] := by rw [hbs, hq0]; rfl
          have hbl : ¬ (0 < (bs.length : Int)) := by rw [hb0]; simp
          have hDz : ¬ 0 < DD := by have := HQ.out; omega
          by_cases hi0 : i = 0
          · have hUone : (U == 1) = true := by simpa using hUi.2 hi0
            have HN := Lib.hid (show (bs ++ [UInt8.ofNat (48 + q % 10)]).length ≤ 8 ∧ (1 ≤ i → bs ++ [UInt8.ofNat (48 + q % 10)] = upD (n.toNat / 10 ^ i)) ∧ (i = 0 → bs ++ [UInt8.ofNat (48 + q % 10)] = (revD 8 n.toNat).reverse) from by
              refine ⟨by rw [hb0]; simp, fun h => by omega, fun _ => ?_⟩
              have hn0 : n.toNat = 0 := by rw [hi0] at hq; simp at hq; omega
              rw [hb0, hq0, hn0]
              rfl)
            subst hb0
            clear hbs hq hq10 hUi hi0 hqlt hq0 hbl
            go_wp2_with (at_builtin; refine wpList_append_own_at _ rfl _ _ 48 rfl w.heap.size 5 i0 (.int .u8 0) 1 1 Tryd.underlying48 hi hz0 hz1 hz2 rfl (by decide) _ 0 [] rfl (own_keep Ho.out (box_below wr (.cells #[.int .u8 (48 + DD)] 5))) ⟨wr.heap.size, 0, none⟩ 1 1 [.int .u8 (48 + DD)] rfl rfl (cell_one _ _ _) (by simp [Value.oneCell']) (by simp [maxLen]) (by simp) (by have := Hb.out.size; simp; omega) ?_; intro u2 w2 hown2 hgr2 _ hat2)
            go_roundw
            case rel =>
              refine ⟨i, [UInt8.ofNat (48 + q % 10)], by omega, by rw [HU.out.1], Lib.hid HN.out, Lib.hid ?_, Lib.hid ?_⟩
              · have e : (48 : Int) + DD = ((UInt8.ofNat (48 + q % 10)).toNat : Int) := by rw [ofNat_digit]; have := HQ.out; omega
                rw [e] at hown2
                exact hown2
              · exact (Hb.out.alloc Hb.out.size _).grown hgr2 (by have := Hb.out.size; simp; omega) (own_blk_ge Ho.out)
            case measure => have := HU.out.2; simp only [intOf]; omega
          · have hUno : (U == 1) = false := by
              have : ¬ U = 1 := fun h => hi0 (hUi.1 h)
              simpa using this
            have HN := Lib.hid (show bs.length ≤ 8 ∧ (1 ≤ i → bs = upD (n.toNat / 10 ^ i)) ∧ (i = 0 → bs = (revD 8 n.toNat).reverse) from by
              refine ⟨HI.out.1, fun _ => ?_, fun h => absurd h hi0⟩
              rw [← hq, hq0, hb0]
              rfl)
            subst hb0
            clear hbs hq hq10 hUi hi0 hqlt hq0 hbl
            go_wp2_with fail
            go_roundw
            case rel => exact ⟨i, [], by omega, by rw [HU.out.1], HN, Ho, Hb⟩
            case measure => have := HU.out.2; simp only [intOf]; omega
        · have hstep := upD_step q hqlt hq0
          rw [← hbs] at hstep
          have HN := Lib.hid (show (bs ++ [UInt8.ofNat (48 + q % 10)]).length ≤ 8 ∧ (1 ≤ i → bs ++ [UInt8.ofNat (48 + q % 10)] = upD (n.toNat / 10 ^ i)) ∧ (i = 0 → bs ++ [UInt8.ofNat (48 + q % 10)] = (revD 8 n.toNat).reverse) from by
            rw [← hstep]
            refine ⟨upD_len q, fun _ => by rw [hq], fun h => ?_⟩
            rw [h] at hq
            simp at hq
            unfold upD
            rw [if_neg hq0, hq])
          by_cases hbl : 0 < bs.length
          · have hbl2 : 0 < (bs.length : Int) := by omega
            clear hbs hq hq10 hUi hqlt hq0 hstep
            go_wp2_with (at_builtin; refine wpList_append_own_at _ rfl _ _ 48 rfl w.heap.size 5 i0 (.int .u8 0) 1 1 Tryd.underlying48 hi hz0 hz1 hz2 rfl (by decide) _ bs.length (byteCells bs) rfl (own_keep Ho.out (box_below wr (.cells #[.int .u8 (48 + DD)] 5))) ⟨wr.heap.size, 0, none⟩ 1 1 [.int .u8 (48 + DD)] rfl rfl (cell_one _ _ _) (by simp [Value.oneCell']) (by have := HI.out.1; simp [maxLen]; omega) (by have := HI.out.1; simp; omega) (by have := Hb.out.size; simp; omega) ?_; intro u2 w2 hown2 hgr2 _ hat2)
            go_roundw
            case rel =>
              refine ⟨i, bs ++ [UInt8.ofNat (48 + q % 10)], by omega, by rw [HU.out.1], Lib.hid HN.out, Lib.hid ?_, Lib.hid ?_⟩
              · have e : (48 : Int) + DD = ((UInt8.ofNat (48 + q % 10)).toNat : Int) := by rw [ofNat_digit]; have := HQ.out; omega
                rw [e] at hown2
                rw [byteCells_append, List.length_append]
                exact hown2
              · exact (Hb.out.alloc Hb.out.size _).grown hgr2 (by have := Hb.out.size; simp; omega) (own_blk_ge Ho.out)
            case measure => have := HU.out.2; simp only [intOf]; omega
          · have hb0 : bs = [] := List.eq_nil_of_length_eq_zero (by omega)
            have hbl2 : ¬ (0 < (bs.length : Int)) := by omega
            have hDp : 0 < DD := by
              have h9 : q / 10 = 0 := by
                by_cases h9 : q / 10 = 0
                · exact h9
                · exfalso
                  rw [hb0] at hbs
                  unfold upD at hbs
                  rw [if_neg h9] at hbs
                  have := congrArg List.length hbs
                  rw [List.length_reverse] at this
                  exact revD_ne 7 _ (List.eq_nil_of_length_eq_zero this.symm)
              have := HQ.out
              omega
            subst hb0
            clear hbs hq hq10 hUi hqlt hq0 hstep hbl hbl2
            go_wp2_with (at_builtin; refine wpList_append_own_at _ rfl _ _ 48 rfl w.heap.size 5 i0 (.int .u8 0) 1 1 Tryd.underlying48 hi hz0 hz1 hz2 rfl (by decide) _ 0 [] rfl (own_keep Ho.out (box_below wr (.cells #[.int .u8 (48 + DD)] 5))) ⟨wr.heap.size, 0, none⟩ 1 1 [.int .u8 (48 + DD)] rfl rfl (cell_one _ _ _) (by simp [Value.oneCell']) (by simp [maxLen]) (by simp) (by have := Hb.out.size; simp; omega) ?_; intro u2 w2 hown2 hgr2 _ hat2)
            go_roundw
            case rel =>
              refine ⟨i, [UInt8.ofNat (48 + q % 10)], by omega, by rw [HU.out.1], Lib.hid HN.out, Lib.hid ?_, Lib.hid ?_⟩
              · have e : (48 : Int) + DD = ((UInt8.ofNat (48 + q % 10)).toNat : Int) := by rw [ofNat_digit]; have := HQ.out; omega
                rw [e] at hown2
                exact hown2
              · exact (Hb.out.alloc Hb.out.size _).grown hgr2 (by have := Hb.out.size; simp; omega) (own_blk_ge Ho.out)
            case measure => have := HU.out.2; simp only [intOf]; omega
end Go.Proofs.YtmehjcimohhopaaDoor
