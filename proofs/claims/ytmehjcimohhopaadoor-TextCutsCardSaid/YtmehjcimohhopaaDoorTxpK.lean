/- Bytes read as pairs: the library's splitting and cutting in plain words; whether a key is there. No statement is proved here. -/
import Derived.Test.YtmehjcimohhopaaDoorTxpJ
namespace Go.Proofs.YtmehjcimohhopaaDoor
open Go.RowKit

def zeroS : ByteArray := ⟨#[0]⟩
def eqS : ByteArray := ⟨#[61]⟩
def wordsZ (v : ByteArray) : List ByteArray := Lib.splitB zeroS 0 (Lib.countB v zeroS) v
theorem indexByteC_hit (c0 : UInt8) : ∀ (x r : List UInt8), (∀ c ∈ x, c ≠ c0) → Lib.indexByte (x ++ c0 :: r) c0 = x.length
  | [], r, _ => by
    show Lib.indexByte (c0 :: r) c0 = 0
    unfold Lib.indexByte
    rw [if_pos (by simp)]
  | c :: x, r, h => by
    show Lib.indexByte (c :: (x ++ c0 :: r)) c0 = _
    have ih := indexByteC_hit c0 x r (fun y hy => h y (by simp [hy]))
    unfold Lib.indexByte
    rw [if_neg (by simpa using h c (by simp)), ih, if_neg (by first | (simp; done) | (simp; omega))]
    rfl
theorem indexByteC_miss (c0 : UInt8) : ∀ x : List UInt8, (∀ c ∈ x, c ≠ c0) → Lib.indexByte x c0 = -1
  | [], _ => rfl
  | c :: x, h => by
    have ih := indexByteC_miss c0 x (fun y hy => h y (by simp [hy]))
    unfold Lib.indexByte
    rw [if_neg (by simpa using h c (by simp)), ih]
    rfl
theorem first_of (c0 : UInt8) : ∀ l : List UInt8, (∀ c ∈ l, c ≠ c0) ∨ ∃ x r, l = x ++ c0 :: r ∧ ∀ c ∈ x, c ≠ c0
  | [] => .inl (fun c hc => by cases hc)
  | c :: l => by
    by_cases e : c = c0
    · exact .inr ⟨[], l, by rw [e]; rfl, fun c hc => by cases hc⟩
    · rcases first_of c0 l with h | ⟨x, r, rfl, h⟩
      · exact .inl (fun y hy => by rcases List.mem_cons.1 hy with rfl | hy; exact e; exact h y hy)
      · exact .inr ⟨c :: x, r, rfl, fun y hy => by rcases List.mem_cons.1 hy with rfl | hy; exact e; exact h y hy⟩
theorem wordsZ_split : ∀ (n : Nat) (v : ByteArray), v.size ≤ n → (wordsZ v).map (·.data.toList) = splitZ v.data.toList := by
  intro n
  induction n with
  | zero =>
    intro v hv
    have h0 : v.data.toList = [] := by
      apply List.eq_nil_of_length_eq_zero
      have : v.data.toList.length = v.size := by simp
      omega
    have hx : Lib.indexB v zeroS = -1 := by
      rw [Lib.one v zeroS rfl]
      exact indexByteC_miss 0 _ (by rw [h0]; intro c hc; cases hc)
    unfold wordsZ
    rw [Lib.splitB_miss zeroS 0 _ v hx, h0]
    show [v.data.toList] = _
    rw [h0]
    rfl
  | succ n ih =>
    intro v hv
    rcases first_of 0 v.data.toList with h | ⟨x, r, hl, h⟩
    · have hx : Lib.indexB v zeroS = -1 := by
        rw [Lib.one v zeroS rfl]
        exact indexByteC_miss 0 _ h
      unfold wordsZ
      rw [Lib.splitB_miss zeroS 0 _ v hx, splitZ_one _ h]
      rfl
    · have hx : Lib.indexB v zeroS = x.length := by
        rw [Lib.one v zeroS rfl, hl]
        exact indexByteC_hit 0 x r h
      have hsz : v.size = x.length + 1 + r.length := by
        have : v.data.toList.length = v.size := by simp
        rw [← this, hl]
        simp
        omega
      have e1 : (v.extract 0 x.length).data.toList = x := by
        rw [ByteArray.data_extract]
        simp [hl]
      have e2 : (v.extract (x.length + 1) v.size).data.toList = r := by
        rw [ext_drop v (x.length + 1) _ hl]
        show (x ++ 0 :: r).drop (x.length + 1) = r
        rw [show x ++ 0 :: r = (x ++ [0]) ++ r by simp, List.drop_left' (by simp)]
      have ih' := ih (v.extract (x.length + 1) v.size) (by simp; omega)
      unfold wordsZ at ih' ⊢
      rw [Lib.countB_hit v zeroS x.length (by decide) hx, Nat.add_comm, Lib.splitB_hit zeroS 0 _ v x.length hx]
      rw [hl, splitZ_cons x r h]
      show (v.extract 0 (x.length + 0)).data.toList :: _ = _
      rw [Nat.add_zero, e1]
      congr 1
      rw [← e2]
      exact ih'
theorem index_cutE : ∀ x : List UInt8, (cutE x = none → Lib.index x [61] = -1) ∧ ∀ k v, cutE x = some (k, v) → Lib.index x [61] = k.length
  | [] => ⟨fun _ => rfl, fun k v h => by cases h⟩
  | c :: x => by
    obtain ⟨i1, i2⟩ := index_cutE x
    by_cases e : c = 61
    · subst e
      refine ⟨fun h => ?_, fun k v h => ?_⟩
      · rw [cutE, if_pos rfl] at h; cases h
      · rw [cutE, if_pos rfl] at h
        obtain ⟨rfl, rfl⟩ := Prod.mk.inj (Option.some.inj h)
        unfold Lib.index
        rw [if_pos (by simp [List.isPrefixOf])]
        rfl
    · have hp : ¬ ([61] : List UInt8).isPrefixOf (c :: x) = true := by
        simp [List.isPrefixOf]
        exact fun h => e h.symm
      refine ⟨fun h => ?_, fun k v h => ?_⟩
      · rw [cutE, if_neg e] at h
        have h' : cutE x = none := by
          cases hx : cutE x with
          | none => rfl
          | some p => rw [hx] at h; cases h
        unfold Lib.index
        rw [if_neg hp, i1 h']
        rfl
      · rw [cutE, if_neg e] at h
        cases hx : cutE x with
        | none => rw [hx] at h; cases h
        | some p =>
          rw [hx] at h
          obtain ⟨rfl, rfl⟩ := Prod.mk.inj (Option.some.inj h)
          unfold Lib.index
          rw [if_neg hp, i2 p.1 p.2 hx, if_neg (by first | (simp; done) | (simp; omega))]
          rfl
theorem cut_none {x : List UInt8} (h : cutE x = none) : Lib.cut x [61] = (x, [], false) := by
  unfold Lib.cut
  rw [(index_cutE x).1 h, if_neg (by omega)]
theorem cut_some {x k v : List UInt8} (h : cutE x = some (k, v)) : Lib.cut x [61] = (k, v, true) := by
  unfold Lib.cut
  rw [(index_cutE x).2 k v h, if_pos (by omega)]
  have e := cutE_back x k v h
  rw [e]
  simp
theorem suffix_zero {b : List UInt8} (hne : b ≠ []) : Lib.hasSuffix b [0] = (b.getLastD 0 == 0) ∧ (b.getLastD 0 = 0 → Lib.trimSuffix b [0] = b.dropLast) := by
  rcases List.eq_nil_or_concat b with rfl | ⟨l, c, rfl⟩
  · exact absurd rfl hne
  · rw [List.concat_eq_append]
    have hl : (l ++ [c]).getLastD 0 = c := by simp [List.getLastD_eq_getLast?]
    have hs : Lib.hasSuffix (l ++ [c]) [0] = (c == 0) := by
      unfold Lib.hasSuffix
      rw [Bool.eq_iff_iff, List.isSuffixOf_iff_suffix]
      constructor
      · rintro ⟨t, ht⟩
        have := (List.append_inj' ht rfl).2
        simp at this
        simp [← this]
      · intro h
        have : c = 0 := by simpa using h
        exact ⟨l, by rw [this]⟩
    rw [hl, hs]
    refine ⟨rfl, fun h => ?_⟩
    unfold Lib.trimSuffix
    rw [hs, if_pos (by simpa using h), List.dropLast_concat]
    simp
set_option maxRecDepth 100000 in
theorem get1_any (c : Nat) (k : ByteArray) (q : Pr) (t : TypeId) (w : World) (hc : w.heap[c]? = some (.cells #[.string k] t (0, 0))) :
    Calls Tryd.prog 46 #[.agg #[.string q.1, .string q.2], .pointer (some ⟨c, 0, none⟩)] w fun e w' => e = .returned (.bool (q.1.toList == k.toList)) ∧ Below w.heap.size w w' := by
  obtain ⟨c0, -⟩ := cells1 (blk_alloc hc (.cells #[.string q.1, .string q.2] 46))
  have hbx := box_below w (.cells #[.string q.1, .string q.2] 46)
  have HB := Lib.hid hbx
  clear hc hbx
  go_enter Tryd.func46, Tryd.ntmps46
  go_wp2_with fail
  go_ret
  exact ⟨rfl, HB.out⟩
theorem anyK_at {out : List Pr} {j : Nat} {k : ByteArray} (h : j < out.length) (he : (out[j].1.toList == k.toList) = true) : anyK out k = true := by
  unfold anyK
  rw [List.any_eq_true]
  exact ⟨out[j], List.getElem_mem h, by rw [ByteArray.toList_eq, ByteArray.toList_eq] at he; exact he⟩
set_option maxRecDepth 100000 in
set_option maxHeartbeats 1000000 in
theorem idxp_any {S : Nat → Prop} (va : Value) (out : List Pr) (c : Nat) (k : ByteArray) (t : TypeId) (w : World) (hl : PairsAt S w va out) (hc : w.heap[c]? = some (.cells #[.string k] t (0, 0))) :
    Calls Tryd.prog 74 #[va, .func (.func 46) #[] #[.pointer (some ⟨c, 0, none⟩)]] w fun e w' => ∃ i : Int, e = .returned (.int .i64 i) ∧ decide (0 ≤ i) = anyK out k ∧ Below w.heap.size w w' := by
  obtain ⟨A, cA, rfl⟩ := RowAt.slice hl
  have hmax := RowAt.le hl
  unfold maxLen at hmax
  have Hl := Lib.hid hl
  have HC := Lib.hid hc
  clear hl hc
  go_enter Tryd.func74, Tryd.ntmps74
  go_wp2_with fail
  go_loopw [8] (fun i wr => ∃ j : Nat, j ≤ out.length ∧ i = .int .i64 j ∧ Hid (anyK (out.take j) k = false ∧ Below w.heap.size w wr)) (fun i _ => out.length - (intOf i).toNat)
  case atStart => exact ⟨0, Nat.zero_le _, rfl, Lib.hid ⟨rfl, Below.refl _ _⟩⟩
  case round =>
    obtain ⟨j, hj, rfl, HJ⟩ := hrel
    by_cases hlt : j < out.length
    · have hlt3 : (j : Int) < out.length := by omega
      obtain ⟨b1, b2, b3, hv1, hn1, hc1, -, hab1, hcell1⟩ := RowAt.form Hl.out (by omega)
      injection hv1 with hv1 _ hv3
      subst hv1 hv3
      obtain ⟨p0, p1⟩ := pairCells_at out j hlt
      have x0 := cell_keep HJ.out.2 (hcell1 _ _ p0)
      have x1 := cell_keep HJ.out.2 (hcell1 _ _ p1)
      rw [← Nat.add_assoc] at x1
      have hn := anyK_take hlt k
      have hy := anyK_at (k := k) hlt
      obtain ⟨⟨kk, vv⟩, hkv⟩ : ∃ p, out[j] = p := ⟨_, rfl⟩
      rw [hkv] at x0 x1 hn hy
      have hG := get1_any c k (kk, vv) t wr (blk_keep HJ.out.2 HC.out)
      simp only at hn hy hG
      obtain ⟨e, he⟩ : ∃ e, (kk.toList == k.toList) = e := ⟨_, rfl⟩
      rw [he] at hn hy hG
      have HN := Lib.hid hn
      have HY := Lib.hid hy
      have HG := Lib.hid hG
      clear hcell1 p0 p1 hkv hn1 hab1 hn hy hG he
      cases e with
      | true =>
        have HT := Lib.hid (HY.out rfl)
        clear HY HN
        go_wp2_with (go_at_call 46; refine HG.out.mono ?_; rintro _ W1 ⟨rfl, hb1⟩; have HB := Lib.hid hb1; clear hb1)
        go_ret
        exact ⟨_, rfl, by rw [HT.out]; simp, below_then HJ.out.2 HB.out⟩
      | false =>
        clear HY
        go_wp2_with (go_at_call 46; refine HG.out.mono ?_; rintro _ W1 ⟨rfl, hb1⟩; have HB := Lib.hid hb1; clear hb1)
        go_roundw
        case rel => exact ⟨j + 1, hlt, by go_num, Lib.hid ⟨by rw [HN.out, HJ.out.1]; rfl, below_then HJ.out.2 HB.out⟩⟩
        case measure => simp [intOf]; omega
    · obtain rfl : j = out.length := by omega
      have hn := HJ.out.1
      rw [List.take_length] at hn
      have HN := Lib.hid hn
      clear hn
      go_wp2_with fail
      go_ret
      exact ⟨_, rfl, by rw [HN.out]; rfl, HJ.out.2⟩
set_option maxRecDepth 100000 in
theorem contp_any {S : Nat → Prop} (va : Value) (out : List Pr) (c : Nat) (k : ByteArray) (t : TypeId) (w : World) (hl : PairsAt S w va out) (hc : w.heap[c]? = some (.cells #[.string k] t (0, 0))) :
    Calls Tryd.prog 45 #[va, .func (.func 46) #[] #[.pointer (some ⟨c, 0, none⟩)]] w fun e w' => e = .returned (.bool (anyK out k)) ∧ Below w.heap.size w w' := by
  have H := Lib.hid (idxp_any va out c k t w hl hc)
  clear hl hc
  go_enter Tryd.func45, Tryd.ntmps45
  go_wp2_with fail
  refine H.out.mono ?_
  rintro _ w' ⟨i, rfl, hi, hb⟩
  have Hi := Lib.hid hi
  have HB := Lib.hid hb
  clear hi hb
  go_wp2_with fail
  go_ret
  exact ⟨by rw [← Hi.out]; simp, HB.out⟩
end Go.Proofs.YtmehjcimohhopaaDoor
