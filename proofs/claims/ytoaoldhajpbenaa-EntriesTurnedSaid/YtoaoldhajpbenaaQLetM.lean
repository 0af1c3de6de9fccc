/- Texts that belong together, in one file: LetJ, LetK, EntX, LetS, LetL, LetM. No statement is proved here. -/
import Derived.Test.YtoaoldhajpbenaaQLetI
import Derived.Test.YtoaoldhajpbenaaQLetA
import Derived.Test.YtoaoldhajpbenaaQFldF
import Derived.Deep.RegionLaw
import Derived.Laws.IdiomStrings
namespace Go.Proofs.Ytoaoldhajpbenaa
open Go.RowKit

theorem rdEnts_enc : ∀ (l : List Ent) (rest : List UInt8), (∀ e ∈ l, rightB e = true) → rdEnts l.length (encEs l ++ rest, 0) = (l, (rest, 0))
  | [], _, _ => rfl
  | e :: l, rest, h => by
    have h1 : encEs (e :: l) ++ rest = encE e ++ (encEs l ++ rest) := by simp [encEs]
    have h2 := rdEnt_enc e (encEs l ++ rest) (h e (by simp))
    have h3 := rdEnts_enc l rest (fun e he => h e (by simp [he]))
    show ((rdEnt _).1 :: (rdEnts l.length (rdEnt _).2).1, (rdEnts l.length (rdEnt _).2).2) = _
    rw [h1, h2, h3]
theorem entsSize_ge (l : List Ent) : l.length ≤ entsSize l := by
  induction l with
  | nil => exact Nat.le_refl _
  | cons e l ih =>
    have h2 : entsSize (e :: l) = 9 + e.cmd.length + entsSize l := rfl
    rw [h2, List.length_cons]
    omega
theorem rdCount_be (n : Nat) (rest : List UInt8) (h : n ≤ 4096) (hr : n ≤ rest.length) : rdCount 2 4096 (be 2 n ++ rest, 0) = ((n : Int), (rest, 0)) := by
  have e := rdNum_be 2 n rest (by omega)
  unfold rdCount
  rw [if_neg (by simp), if_neg (by simp [be_length]), e, if_neg (by show ¬ ((4096 : Nat) : Int) < (n : Int); omega), if_neg (by show ¬ (rest.length : Int) < (n : Int); omega)]

theorem nat_of {n : Int} (h : 0 ≤ n) : ((n.toNat : Nat) : Int) = n := by omega
theorem unpMsg_enc (m : Msg) (hL : longB m = false) (hO : msgOK m = true) : unpMsg (encM m ++ be 4 (crcSum (encM m))) = (m, 0) := by
  obtain ⟨f3, f4, f5, f6, f7, f0, f1, f2, fl⟩ := msgOK_facts hO
  obtain ⟨g1, g2, g3⟩ := longB_facts hL
  have hlen := encM_length m
  have hl : (encM m ++ be 4 (crcSum (encM m))).length = msgSize m := by rw [List.length_append, be_length]; exact hlen
  have ht : (encM m ++ be 4 (crcSum (encM m))).take (msgSize m - 4) = encM m := by
    rw [show msgSize m - 4 = (encM m).length by omega, List.take_left]
  have hd : (encM m ++ be 4 (crcSum (encM m))).drop (msgSize m - 4) = be 4 (crcSum (encM m)) := by
    rw [show msgSize m - 4 = (encM m).length by omega, List.drop_left]
  obtain ⟨R, hR⟩ : ∃ R, R = be 1 m.kind.toNat ++ (be 1 m.src.toNat ++ (be 1 m.dst.toNat ++ (be 1 (if m.yes then 1 else 0) ++ (be 6 m.term.toNat ++ (be 6 m.at_.toNat ++ (be 6 m.atTerm.toNat ++ (be 6 m.commit.toNat ++ (be 6 m.round.toNat ++ (be 2 m.l.length ++ (encEs m.l ++ (be 4 m.data.length ++ m.data))))))))))) := ⟨_, rfl⟩
  have hM : encM m = 202 :: R := by
    rw [hR]
    unfold encM encHead
    simp only [List.append_assoc]
    rfl
  unfold unpMsg
  rw [hl, ht, hd, beVal_be 4 _ (crcSum_lt _), if_neg (by omega), if_neg (by unfold msgSize; omega), if_neg (by simp)]
  have hh : ¬ (msgSize m = 4 ∨ (encM m ++ be 4 (crcSum (encM m))).headD 0 ≠ 202) := by
    rw [hM]
    unfold msgSize
    simp
    omega
  rw [if_neg hh, hM]
  show unpBody (R, 0) = _
  have y2 : (if m.yes then 1 else 0 : Nat) < 256 ^ 1 := by split <;> decide
  have e0 := rdNum_be 1 m.kind.toNat (be 1 m.src.toNat ++ (be 1 m.dst.toNat ++ (be 1 (if m.yes then 1 else 0) ++ (be 6 m.term.toNat ++ (be 6 m.at_.toNat ++ (be 6 m.atTerm.toNat ++ (be 6 m.commit.toNat ++ (be 6 m.round.toNat ++ (be 2 m.l.length ++ (encEs m.l ++ (be 4 m.data.length ++ m.data))))))))))) (by omega)
  rw [← hR] at e0
  have e1 := rdNum_be 1 m.src.toNat (be 1 m.dst.toNat ++ (be 1 (if m.yes then 1 else 0) ++ (be 6 m.term.toNat ++ (be 6 m.at_.toNat ++ (be 6 m.atTerm.toNat ++ (be 6 m.commit.toNat ++ (be 6 m.round.toNat ++ (be 2 m.l.length ++ (encEs m.l ++ (be 4 m.data.length ++ m.data)))))))))) (by omega)
  have e2 := rdNum_be 1 m.dst.toNat (be 1 (if m.yes then 1 else 0) ++ (be 6 m.term.toNat ++ (be 6 m.at_.toNat ++ (be 6 m.atTerm.toNat ++ (be 6 m.commit.toNat ++ (be 6 m.round.toNat ++ (be 2 m.l.length ++ (encEs m.l ++ (be 4 m.data.length ++ m.data))))))))) (by omega)
  have e3 := rdNum_be 1 (if m.yes then 1 else 0) (be 6 m.term.toNat ++ (be 6 m.at_.toNat ++ (be 6 m.atTerm.toNat ++ (be 6 m.commit.toNat ++ (be 6 m.round.toNat ++ (be 2 m.l.length ++ (encEs m.l ++ (be 4 m.data.length ++ m.data)))))))) y2
  have e4 := rdNum_be 6 m.term.toNat (be 6 m.at_.toNat ++ (be 6 m.atTerm.toNat ++ (be 6 m.commit.toNat ++ (be 6 m.round.toNat ++ (be 2 m.l.length ++ (encEs m.l ++ (be 4 m.data.length ++ m.data))))))) (by omega)
  have e5 := rdNum_be 6 m.at_.toNat (be 6 m.atTerm.toNat ++ (be 6 m.commit.toNat ++ (be 6 m.round.toNat ++ (be 2 m.l.length ++ (encEs m.l ++ (be 4 m.data.length ++ m.data)))))) (by omega)
  have e6 := rdNum_be 6 m.atTerm.toNat (be 6 m.commit.toNat ++ (be 6 m.round.toNat ++ (be 2 m.l.length ++ (encEs m.l ++ (be 4 m.data.length ++ m.data))))) (by omega)
  have e7 := rdNum_be 6 m.commit.toNat (be 6 m.round.toNat ++ (be 2 m.l.length ++ (encEs m.l ++ (be 4 m.data.length ++ m.data)))) (by omega)
  have e8 := rdNum_be 6 m.round.toNat (be 2 m.l.length ++ (encEs m.l ++ (be 4 m.data.length ++ m.data))) (by omega)
  have e9 := rdCount_be m.l.length (encEs m.l ++ (be 4 m.data.length ++ m.data)) g1 (by rw [List.length_append, encEs_length]; have := entsSize_ge m.l; omega)
  have e10 := rdEnts_enc m.l (be 4 m.data.length ++ m.data) fl
  have e11 := rdBytes_be 4 m.data [] (by omega) g2
  rw [List.append_nil] at e11
  have eN : rdNums headSizes (R, 0) = ([(m.kind.toNat : Int), m.src.toNat, m.dst.toNat, (if m.yes then 1 else 0 : Nat), m.term.toNat, m.at_.toNat, m.atTerm.toNat, m.commit.toNat, m.round.toNat], (be 2 m.l.length ++ (encEs m.l ++ (be 4 m.data.length ++ m.data)), 0)) := by
    unfold headSizes
    simp only [rdNums, e0, e1, e2, e3, e4, e5, e6, e7, e8]
  have hmo : msgOf [(m.kind.toNat : Int), m.src.toNat, m.dst.toNat, (if m.yes then 1 else 0 : Nat), m.term.toNat, m.at_.toNat, m.atTerm.toNat, m.commit.toNat, m.round.toNat] m.l m.data = m := by
    obtain ⟨k0, k1, k2, k3, k4, k5, k6, k7, yes, l, data⟩ := m
    simp only at f3 f4 f5 f6 f7 f0 f1 f2 ⊢
    unfold msgOf
    simp only [List.getD_cons_zero, List.getD_cons_succ]
    rw [nat_of f0.1, nat_of f1.1, nat_of f2.1, nat_of f3.1, nat_of f4.1, nat_of f5.1, nat_of f6.1, nat_of f7.1]
    cases yes <;> rfl
  unfold unpBody
  rw [eN]
  simp only []
  rw [e9]
  simp only [Int.toNat_natCast]
  rw [e10]
  simp only []
  rw [e11]
  simp only []
  unfold msgEnd
  rw [hmo, if_neg (by simp), if_neg (by simp only [List.getD_cons_zero, List.getD_cons_succ]; split <;> decide), if_neg (by simp), if_pos hO]

theorem rdNums_inv : ∀ (zs : List Nat) (st : List UInt8 × Int), (rdNums zs st).2.2 = 0 → st.2 = 0 ∧ st.1 = (List.zipWith (fun z n => be z (Int.toNat n)) zs (rdNums zs st).1).flatten ++ (rdNums zs st).2.1
  | [], _, h => ⟨h, rfl⟩
  | z :: zs, st, h => by
    obtain ⟨h1, e1⟩ := rdNums_inv zs (rdNum z st).2 h
    obtain ⟨h0, e0⟩ := rdNum_inv z st h1
    refine ⟨h0, ?_⟩
    show st.1 = be z (rdNum z st).1.toNat ++ (List.zipWith (fun z n => be z (Int.toNat n)) zs (rdNums zs (rdNum z st).2).1).flatten ++ (rdNums zs (rdNum z st).2).2.1
    rw [List.append_assoc, ← e1, ← e0]
theorem rdEnts_inv : ∀ (k : Nat) (st : List UInt8 × Int), (rdEnts k st).2.2 = 0 → st.2 = 0 ∧ st.1 = encEs (rdEnts k st).1 ++ (rdEnts k st).2.1
  | 0, _, h => ⟨h, rfl⟩
  | k + 1, st, h => by
    obtain ⟨h1, e1⟩ := rdEnts_inv k (rdEnt st).2 h
    obtain ⟨h0, e0⟩ := rdEnt_inv st h1
    refine ⟨h0, ?_⟩
    have : encEs (rdEnts (k + 1) st).1 = encE (rdEnt st).1 ++ encEs (rdEnts k (rdEnt st).2).1 := rfl
    rw [this, List.append_assoc]
    show st.1 = encE (rdEnt st).1 ++ (encEs (rdEnts k (rdEnt st).2).1 ++ (rdEnts k (rdEnt st).2).2.1)
    rw [← e1, ← e0]
theorem rdCount_inv (st : List UInt8 × Int) (h : (rdCount 2 4096 st).2.2 = 0) : st.2 = 0 ∧ st.1 = be 2 (rdCount 2 4096 st).1.toNat ++ (rdCount 2 4096 st).2.1 := by
  unfold rdCount at *
  by_cases he : st.2 ≠ 0
  · rw [if_pos he] at h; exact absurd h he
  · rw [if_neg he] at h ⊢
    by_cases h1 : st.1.length < 2
    · rw [if_pos h1] at h; simp at h
    · rw [if_neg h1] at h ⊢
      by_cases h2 : ((4096 : Nat) : Int) < (rdNum 2 st).1
      · rw [if_pos h2] at h; simp at h
      · rw [if_neg h2] at h ⊢
        by_cases h3 : ((rdNum 2 st).2.1.length : Int) < (rdNum 2 st).1
        · rw [if_pos h3] at h; simp at h
        · rw [if_neg h3] at h ⊢; exact rdNum_inv 2 st h
theorem rdNums_len : ∀ (zs : List Nat) (st : List UInt8 × Int), (rdNums zs st).1.length = zs.length
  | [], _ => rfl
  | z :: zs, st => by show (_ :: _ : List Int).length = _; rw [List.length_cons, rdNums_len zs, List.length_cons]
theorem rdNums_bounds : ∀ (zs : List Nat) (st : List UInt8 × Int) (i : Nat), 0 ≤ (rdNums zs st).1.getD i 0
  | [], _, _ => Int.le_refl _
  | z :: _zs, st, 0 => (rdNum_lt z st).1
  | _z :: zs, _st, i + 1 => rdNums_bounds zs _ i
theorem beVal_split (b : List UInt8) (n : Nat) (h : n + 4 = b.length) (c : Nat) (hc : beVal (b.drop n) = c) : b = b.take n ++ be 4 c := by
  have := be_beVal (b.drop n)
  rw [List.length_drop, show b.length - n = 4 by omega, hc] at this
  rw [this, List.take_append_drop]

theorem unpMsg_inv (b : List UInt8) (h : (unpMsg b).2 = 0) :
    longB (unpMsg b).1 = false ∧ msgOK (unpMsg b).1 = true ∧ encM (unpMsg b).1 ++ be 4 (crcSum (encM (unpMsg b).1)) = b := by
  unfold unpMsg at *
  by_cases c1 : 65536 < b.length
  · rw [if_pos c1] at h; simp at h
  · rw [if_neg c1] at h ⊢
    by_cases c2 : b.length < 4
    · rw [if_pos c2] at h; simp at h
    · rw [if_neg c2] at h ⊢
      by_cases c3 : beVal (b.drop (b.length - 4)) ≠ crcSum (b.take (b.length - 4))
      · rw [if_pos c3] at h; simp at h
      · rw [if_neg c3] at h ⊢
        by_cases c4 : b.length = 4 ∨ b.headD 0 ≠ 202
        · rw [if_pos c4] at h; simp at h
        · rw [if_neg c4] at h ⊢
          have hsum : beVal (b.drop (b.length - 4)) = crcSum (b.take (b.length - 4)) := by omega
          have hspl := beVal_split b (b.length - 4) (by omega) _ hsum
          obtain ⟨F, hF⟩ : ∃ F, F = b.take (b.length - 4) := ⟨_, rfl⟩
          have hFl : F.length + 4 = b.length := by rw [hF]; simp; omega
          rw [← hF] at hspl h ⊢
          have hFh : F = 202 :: F.drop 1 := by
            have hb : b.headD 0 = 202 := by
              refine Decidable.byContradiction fun hh => c4 (.inr hh)
            match F, hFl, hspl with
            | [], hFl, _ => simp at hFl; omega
            | x :: F', _, hspl => rw [hspl] at hb; simp at hb; rw [hb]; rfl
          obtain ⟨R, hR⟩ : ∃ R, R = F.drop 1 := ⟨_, rfl⟩
          rw [← hR] at h hFh ⊢
          unfold unpBody at h ⊢
          obtain ⟨ns, s1, e1⟩ : ∃ ns s1, rdNums headSizes (R, 0) = (ns, s1) := ⟨_, _, rfl⟩
          rw [e1] at h ⊢
          simp only [] at h ⊢
          obtain ⟨c, s2, e2⟩ : ∃ c s2, rdCount 2 4096 s1 = (c, s2) := ⟨_, _, rfl⟩
          rw [e2] at h ⊢
          simp only [] at h ⊢
          obtain ⟨es, s3, e3⟩ : ∃ es s3, rdEnts c.toNat s2 = (es, s3) := ⟨_, _, rfl⟩
          rw [e3] at h ⊢
          simp only [] at h ⊢
          obtain ⟨d, ys, er, e4⟩ : ∃ d ys er, rdBytes 4 s3 = (d, (ys, er)) := ⟨_, _, _, rfl⟩
          rw [e4] at h ⊢
          simp only [] at h ⊢
          unfold msgEnd at h ⊢
          by_cases q1 : er ≠ 0
          · rw [if_pos q1] at h; exact absurd h q1
          · rw [if_neg q1] at h ⊢
            by_cases q2 : 1 < ns.getD 3 0
            · rw [if_pos q2] at h; simp at h
            · rw [if_neg q2] at h ⊢
              by_cases q3 : ys.length ≠ 0
              · rw [if_pos q3] at h; simp at h
              · rw [if_neg q3] at h ⊢
                by_cases q4 : msgOK (msgOf ns es d) = true
                · rw [if_pos q4] at h ⊢
                  have he0 : er = 0 := by omega
                  have hy0 : ys = [] := List.eq_nil_of_length_eq_zero (by omega)
                  subst he0 hy0
                  have i4 := rdBytes_inv 4 s3 (by rw [e4])
                  rw [e4] at i4
                  simp only [List.append_nil] at i4
                  have i3 := rdEnts_inv c.toNat s2 (by rw [e3]; exact i4.1)
                  rw [e3] at i3
                  have i2 := rdCount_inv s1 (by rw [e2]; exact i3.1)
                  rw [e2] at i2
                  have i1 := rdNums_inv headSizes (R, 0) (by rw [e1]; exact i2.1)
                  rw [e1] at i1
                  have hnl := rdNums_len headSizes (R, 0)
                  rw [e1] at hnl
                  have hnb := rdNums_bounds headSizes (R, 0) 3
                  rw [e1] at hnb
                  have hel := rdEnts_length c.toNat s2
                  rw [e3] at hel
                  have hcl := rdCount_le s1
                  rw [e2] at hcl
                  simp only at i1 i2 i3 i4 hnl hnb hel hcl
                  have hR2 : R = (List.zipWith (fun z n => be z (Int.toNat n)) headSizes ns).flatten ++ (be 2 c.toNat ++ (encEs es ++ (be 4 d.length ++ d))) := by
                    rw [i1.2, i2.2, i3.2, i4.2]
                  have hen : encM (msgOf ns es d) = F := by
                    rw [hFh, hR2]
                    match ns, hnl with
                    | [n0, n1, n2, n3, n4, n5, n6, n7, n8], _ =>
                      have hy3 : (if decide (n3 = 1) = true then 1 else 0 : Nat) = n3.toNat := by
                        have a : 0 ≤ n3 := hnb
                        have b2 : ¬ 1 < n3 := q2
                        by_cases hh : n3 = 1
                        · subst hh; rfl
                        · have : n3 = 0 := by omega
                          subst this; rfl
                      unfold encM encHead msgOf
                      simp only [List.getD_cons_zero, List.getD_cons_succ, headSizes, List.zipWith_cons_cons, List.zipWith_nil_left, List.flatten_cons, List.flatten_nil, List.append_assoc, List.nil_append]
                      rw [hy3, hel]
                      rfl
                  refine ⟨?_, q4, ?_⟩
                  · have hlen := encM_length (msgOf ns es d)
                    rw [hen] at hlen
                    have hdl : d.length ≤ 65536 := by
                      have h5 : d.length ≤ b.length := by
                        have h6 := congrArg List.length i4.2
                        have h7 := congrArg List.length i3.2
                        have h8 := congrArg List.length i2.2
                        have h9 := congrArg List.length i1.2
                        have h10 := congrArg List.length hFh
                        simp at h6 h7 h8 h9 h10
                        omega
                      omega
                    have a : decide (4096 < es.length) = false := by simp; omega
                    have b2 : decide (65536 < d.length) = false := by simp; omega
                    have c : decide (65536 < msgSize (msgOf ns es d)) = false := by simp; omega
                    show (decide (4096 < es.length) || decide (65536 < d.length) || decide (65536 < msgSize (msgOf ns es d))) = false
                    rw [a, b2, c]
                    rfl
                  · show encM (msgOf ns es d) ++ be 4 (crcSum (encM (msgOf ns es d))) = b
                    rw [hen, ← hspl]
                · rw [if_neg q4] at h; simp at h
end Go.Proofs.Ytoaoldhajpbenaa

namespace Go.Proofs.Ytoaoldhajpbenaa
open Go.RowKit

/-- A piece up to k. -/
theorem bytes_h {S : Nat → Prop} {w : World} {v : Value} {xs : List UInt8} (h : Bytes S w v xs) (k : Int) (h1 : 0 ≤ k) (h2 : k ≤ xs.length) :
    ∃ a n c, Bytes S w (.slice a n c) (xs.take k.toNat) ∧ n = k.toNat ∧ ∀ w0 kh, (Instr.sliceAt 31 v none (some (.int kh k)) none).run Try.prog w0 = .ok (.slice a n c) w0 := by
  obtain ⟨A, c, rfl⟩ := h.slice
  have hc : xs.length ≤ c := by
    rcases h.2 with ⟨h0, hv | ⟨a', c', hv⟩⟩ | ⟨b, o, c', hv, hn, hc, hS, hb, hcell⟩
    · omega
    · omega
    · injection hv with e1 e2 e3
      omega
  have hs := bytes_sliced h 0 k.toNat c (by omega) (by omega) (by omega) (by omega)
  rw [List.drop_zero] at hs
  refine ⟨_, _, _, hs, by omega, fun w0 kh => ?_⟩
  have ht : Try.prog.underlying 31 = some (.slice (Try.prog.elem 31)) := by rw [elemBytes]; exact Try.underlying31
  rw [run_sliceAt_slice _ _ _ _ _ _ ht, run_slice_h _ _ _ _ _ ht kh k h1 (by omega), elemBytes, sizeU8]
  rfl
theorem frozen11 {w : World} {b : Nat} {x0 x1 x2 x3 x4 x5 x6 x7 x8 x9 x10 : Value} {t : TypeId} (h : w.heap[b]? = some (.cells #[x0, x1, x2, x3, x4, x5, x6, x7, x8, x9, x10] t (0, 0))) :
    w.frozen? ⟨b, 0, none⟩ = false ∧ w.frozen? ⟨b, 1, none⟩ = false ∧ w.frozen? ⟨b, 2, none⟩ = false ∧ w.frozen? ⟨b, 3, none⟩ = false ∧ w.frozen? ⟨b, 4, none⟩ = false ∧ w.frozen? ⟨b, 5, none⟩ = false ∧
      w.frozen? ⟨b, 6, none⟩ = false ∧ w.frozen? ⟨b, 7, none⟩ = false ∧ w.frozen? ⟨b, 8, none⟩ = false ∧ w.frozen? ⟨b, 9, none⟩ = false ∧ w.frozen? ⟨b, 10, none⟩ = false := by simp [World.frozen?, h]
theorem msgAt_zero (S : Nat → Prop) (w : World) : MsgAt S w zeroMsg (.slice none 0 0) (.slice none 0 0) :=
  ⟨⟨[], ⟨rfl, .inl ⟨rfl, .inl rfl⟩⟩, rfl⟩, ⟨rfl, .inl ⟨rfl, .inl rfl⟩⟩, by simp [zeroMsg, in64]⟩
/-- What the walk of UnpackMsg comes to. -/
def UnpTo (w : World) (xs : List UInt8) (e : Ending) (w' : World) : Prop :=
  ∃ vl vd, e = .returned (.tuple #[.agg (msgCells (unpMsg xs).1 vl vd).toArray, .int .i64 (unpMsg xs).2]) ∧ MsgAt (w.heap.size ≤ ·) w' (unpMsg xs).1 vl vd ∧ Below w.heap.size w w'
theorem unpTo_zero {w w' : World} {xs : List UInt8} {er : Int} (h : unpMsg xs = (zeroMsg, er)) (hb : Below w.heap.size w w') :
    UnpTo w xs (.returned (.tuple #[.agg #[.int .i64 0, .int .i64 0, .int .i64 0, .int .i64 0, .int .i64 0, .int .i64 0, .int .i64 0, .int .i64 0, .bool false, .slice none 0 0, .slice none 0 0], .int .i64 er])) w' := by
  refine ⟨.slice none 0 0, .slice none 0 0, by rw [h]; rfl, by rw [h]; exact msgAt_zero _ _, hb⟩

set_option maxRecDepth 100000 in
set_option maxHeartbeats 2000000 in
theorem unpackMsg_size {S : Nat → Prop} (v : Value) (xs : List UInt8) (w : World) (hv : Bytes S w v xs) (h47 : xs.length ≤ 140737488355328) (hn : 65536 < xs.length ∨ xs.length < 4) :
    Calls Try.prog 35 #[v] w (UnpTo w xs) := by
  obtain ⟨A, c, rfl⟩ := hv.slice
  have HB := Lib.hid (box_below w (.cells #[.int .i64 0, .int .i64 0, .int .i64 0, .int .i64 0, .int .i64 0, .int .i64 0, .int .i64 0, .int .i64 0, .bool false, .slice none 0 0, .slice none 0 0] 65))
  obtain ⟨⟨d0, d1, d2, d3, d4, d5, d6, d7, d8, d9, d10⟩, -⟩ := cells11 (blk_new w (.cells #[.int .i64 0, .int .i64 0, .int .i64 0, .int .i64 0, .int .i64 0, .int .i64 0, .int .i64 0, .int .i64 0, .bool false, .slice none 0 0, .slice none 0 0] 65))
  have hle : (xs.length : Int) ≤ 140737488355328 := by omega
  clear hv
  by_cases h1 : 65536 < xs.length
  · have e : unpMsg xs = (zeroMsg, 3) := by unfold unpMsg; rw [if_pos h1]
    obtain ⟨D, hD⟩ : ∃ D : Int, D = xs.length := ⟨_, rfl⟩
    have h1' : 65536 < D := by omega
    have HE := Lib.hid e
    clear e hn
    go_enter Try.func35, Try.ntmps35
    go_wp2_with fail
    refine bodyPost_ret (v := .tuple #[.agg #[.int .i64 0, .int .i64 0, .int .i64 0, .int .i64 0, .int .i64 0, .int .i64 0, .int .i64 0, .int .i64 0, .bool false, .slice none 0 0, .slice none 0 0], .int .i64 3]) (by simp [results, Try.results35, go_sem, d0, d1, d2, d3, d4, d5, d6, d7, d8, d9, d10]) rfl (unpTo_zero HE.out ?_)
    repeat (first | exact HB.out | refine Below.setCell ?_ (Nat.le_refl _) _)
  · have h2 : xs.length < 4 := by omega
    have e : unpMsg xs = (zeroMsg, 10) := by unfold unpMsg; rw [if_neg h1, if_pos h2]
    obtain ⟨D, hD⟩ : ∃ D : Int, D = xs.length := ⟨_, rfl⟩
    have h1' : ¬ (65536 < D) := by omega
    have h2' : D < 4 := by omega
    have h0' : 0 ≤ D := by omega
    have HE := Lib.hid e
    clear e hn
    go_enter Try.func35, Try.ntmps35
    go_wp2_with fail
    refine bodyPost_ret (v := .tuple #[.agg #[.int .i64 0, .int .i64 0, .int .i64 0, .int .i64 0, .int .i64 0, .int .i64 0, .int .i64 0, .int .i64 0, .bool false, .slice none 0 0, .slice none 0 0], .int .i64 10]) (by simp [results, Try.results35, go_sem, d0, d1, d2, d3, d4, d5, d6, d7, d8, d9, d10]) rfl (unpTo_zero HE.out ?_)
    repeat (first | exact HB.out | refine Below.setCell ?_ (Nat.le_refl _) _)

set_option maxRecDepth 100000 in
set_option maxHeartbeats 2000000 in
theorem unpackMsg_sum {S : Nat → Prop} (v : Value) (xs : List UInt8) (w : World) (hv : Bytes S w v xs) (h1 : xs.length ≤ 65536) (h2 : 4 ≤ xs.length) (hs : beVal (xs.drop (xs.length - 4)) ≠ crcSum (xs.take (xs.length - 4))) :
    Calls Try.prog 35 #[v] w (UnpTo w xs) := by
  have e : unpMsg xs = (zeroMsg, 12) := by unfold unpMsg; rw [if_neg (by omega), if_neg (by omega), if_pos hs]
  have hb0 := box_below w (.cells #[.int .i64 0, .int .i64 0, .int .i64 0, .int .i64 0, .int .i64 0, .int .i64 0, .int .i64 0, .int .i64 0, .bool false, .slice none 0 0, .slice none 0 0] 65)
  have hg := get_yes v xs (xs.length - 4) 4 _ (hv.keep hb0) (by omega) (by omega) (by omega)
  rw [List.take_of_length_le (by simp; omega)] at hg
  obtain ⟨a1, n1, k1, hb1, hn1, hr1⟩ := bytes_h (hv.keep hb0) ((xs.length : Int) - 4) (by omega) (by omega)
  rw [show ((xs.length : Int) - 4).toNat = xs.length - 4 by omega] at hb1
  have hsum := sum_any (.slice a1 n1 k1) _ _ hb1
  have hlt : beVal (xs.drop (xs.length - 4)) < 4294967296 := by have := beVal_lt (xs.drop (xs.length - 4)); rw [List.length_drop, show xs.length - (xs.length - 4) = 4 by omega] at this; simpa using this
  have hsl := crcSum_lt (xs.take (xs.length - 4))
  have r1 := fun w0 => hr1 w0 .i64
  have hcast : ((xs.length - 4 : Nat) : Int) = (xs.length : Int) - 4 := by omega
  rw [hcast] at hg
  obtain ⟨A, c, rfl⟩ := hv.slice
  generalize beVal (xs.drop (xs.length - 4)) = s1 at *
  generalize crcSum (xs.take (xs.length - 4)) = s2 at *
  have HB := Lib.hid hb0
  obtain ⟨⟨d0, d1, d2, d3, d4, d5, d6, d7, d8, d9, d10⟩, -⟩ := cells11 (blk_new w (.cells #[.int .i64 0, .int .i64 0, .int .i64 0, .int .i64 0, .int .i64 0, .int .i64 0, .int .i64 0, .int .i64 0, .bool false, .slice none 0 0, .slice none 0 0] 65))
  obtain ⟨D, hD⟩ : ∃ D : Int, D = xs.length := ⟨_, rfl⟩
  have h1' : ¬ (65536 < D) := by omega
  have h2' : 4 ≤ D := by omega
  obtain ⟨I1, hI1⟩ : ∃ I : Int, I = s1 := ⟨_, rfl⟩
  have i0 : 0 ≤ I1 := by omega
  have i1 : I1 < 4294967296 := by omega
  obtain ⟨I2, hI2⟩ : ∃ I : Int, I = s2 := ⟨_, rfl⟩
  have j0 : 0 ≤ I2 := by omega
  have j1 : I2 < 4294967296 := by omega
  have hne : (I1 != I2) = true := by simp; omega
  rw [← hI1] at hg
  rw [← hI2] at hsum
  have HE := Lib.hid e
  have Hg := Lib.hid hg
  have Hsum := Lib.hid hsum
  clear e hv hg hsum hb1 hr1 hn1 hb0 hs hI1 hI2 hlt hsl hcast h1 h2
  go_enter Try.func35, Try.ntmps35
  go_wp2_with (first | (go_at_call 73; refine Hg.out.mono ?_; rintro _ _ ⟨rfl, rfl⟩) | (go_at_call 68; refine Hsum.out.mono ?_; rintro _ _ ⟨rfl, rfl⟩))
  refine bodyPost_ret (v := .tuple #[.agg #[.int .i64 0, .int .i64 0, .int .i64 0, .int .i64 0, .int .i64 0, .int .i64 0, .int .i64 0, .int .i64 0, .bool false, .slice none 0 0, .slice none 0 0], .int .i64 12]) (by simp [results, Try.results35, go_sem, d0, d1, d2, d3, d4, d5, d6, d7, d8, d9, d10]) rfl (unpTo_zero HE.out ?_)
  repeat (first | exact HB.out | refine Below.setCell ?_ (Nat.le_refl _) _)
end Go.Proofs.Ytoaoldhajpbenaa

namespace Go.Proofs.Ytoaoldhajpbenaa
open Go.RowKit

theorem bytes_str {S : Nat → Prop} {w : World} {v : Value} {xs : List UInt8} (h : Bytes S w v xs) : (convert 31 9 v).run Try.prog w = .ok (.string ⟨xs.toArray⟩) w := by
  have hs : Try.prog.underlying 9 = some .string := Try.underlying9
  rcases h.2 with ⟨h0, rfl | ⟨a, c, rfl⟩⟩ | ⟨b, o, c, rfl, hn, hc, _, hb, hcell⟩
  · obtain rfl : xs = [] := List.eq_nil_of_length_eq_zero h0
    rw [run_convert_bytes_string w _ _ _ none 0 0 Try.underlying31 Try.underlying5 hs]
    simp [Conv.bytesToString]
    rfl
  · obtain rfl : xs = [] := List.eq_nil_of_length_eq_zero h0
    exact run_convert_bytes_back w _ _ _ a c [] Try.underlying31 Try.underlying5 hs (fun j hj => by simp at hj)
  · refine run_convert_bytes_back w _ _ _ _ c xs Try.underlying31 Try.underlying5 hs (fun j hj => ?_)
    rw [add_plain]
    exact hcell j _ (by simp [byteCells, hj])

def Drawn (w w' : World) : Prop := ∃ m, w' = w.drewN m
theorem Drawn.refl (w : World) : Drawn w w := ⟨0, rfl⟩
theorem Drawn.drewN {w w' : World} (h : Drawn w w') (n : Nat) : Drawn w (w'.drewN n) := by
  obtain ⟨m, rfl⟩ := h
  exact ⟨m + n, by rw [World.drewN_drewN]⟩
theorem Drawn.below {w w' : World} (h : Drawn w w') : Below w.heap.size w w' := by
  obtain ⟨m, rfl⟩ := h
  exact below_drewN (Below.refl _ _) m
theorem Drawn.trans {a b c : World} (h : Drawn a b) (k : Drawn b c) : Drawn a c := by
  obtain ⟨m, rfl⟩ := k
  exact h.drewN m

set_option maxRecDepth 100000 in
set_option maxHeartbeats 1000000 in
theorem same_eq {S T : Nat → Prop} (va vb : Value) (l : List Ent) (w : World) (ha : Ents S w va l) (hb : Ents T w vb l) :
    Calls Try.prog 18 #[va, vb] w fun e w' => e = .returned (.bool true) ∧ Drawn w w' := by
  obtain ⟨A, ca, rfl⟩ := ha.slice
  obtain ⟨B, cb, rfl⟩ := hb.slice
  have HA := Lib.hid ha
  have HB := Lib.hid hb
  clear ha hb
  go_enter Try.func18, Try.ntmps18
  go_wp2_with fail
  go_loopw [5] (fun i wr => ∃ k : Nat, k ≤ l.length ∧ i = .int .i64 k ∧ Drawn w wr) (fun i _ => l.length - (intOf i).toNat)
  case atStart => exact ⟨0, Nat.zero_le _, rfl, Drawn.refl w⟩
  case round =>
    obtain ⟨k, hk, rfl, hD⟩ := hrel
    by_cases hlt : k < l.length
    · obtain ⟨csa, hra, hea⟩ := HA.out
      obtain ⟨csb, hrb, heb⟩ := HB.out
      obtain ⟨ab, ao, ac, he0, han, hac, -, hab, hacell⟩ := hra.form (by omega)
      injection he0 with he1 _ he2
      subst he1 he2
      obtain ⟨bb, bo, bc, he0, hbn, hbc, -, hbb, hbcell⟩ := hrb.form (by omega)
      injection he0 with he1 _ he2
      subst he1 he2
      obtain ⟨va, a0, a1, a2, -, -, hya⟩ := hea.at k hlt
      obtain ⟨vb, b0, b1, b2, -, -, hyb⟩ := heb.at k hlt
      have x0 : wr.cell? ⟨ab, ao + k * 3, none⟩ = some (.int .i64 l[k].kind) := cell_keep hD.below (hacell _ _ a0)
      have x1 : wr.cell? ⟨ab, ao + k * 3 + 1, none⟩ = some (.int .i64 l[k].term) := by rw [Nat.add_assoc]; exact cell_keep hD.below (hacell _ _ a1)
      have x2 : wr.cell? ⟨ab, ao + k * 3 + 2, none⟩ = some va := by rw [Nat.add_assoc]; exact cell_keep hD.below (hacell _ _ a2)
      have y0 : wr.cell? ⟨bb, bo + k * 3, none⟩ = some (.int .i64 l[k].kind) := cell_keep hD.below (hbcell _ _ b0)
      have y1 : wr.cell? ⟨bb, bo + k * 3 + 1, none⟩ = some (.int .i64 l[k].term) := by rw [Nat.add_assoc]; exact cell_keep hD.below (hbcell _ _ b1)
      have y2 : wr.cell? ⟨bb, bo + k * 3 + 2, none⟩ = some vb := by rw [Nat.add_assoc]; exact cell_keep hD.below (hbcell _ _ b2)
      have hlt2 : (k : Int) < (l.length : Int) := by omega
      have sa : ∀ n, (convert 31 9 va).run Try.prog (wr.drewN n) = .ok (.string ⟨l[k].cmd.toArray⟩) (wr.drewN n) := fun n => bytes_str (hya.keep (below_drewN hD.below n))
      have sb : ∀ n, (convert 31 9 vb).run Try.prog (wr.drewN n) = .ok (.string ⟨l[k].cmd.toArray⟩) (wr.drewN n) := fun n => bytes_str (hyb.keep (below_drewN hD.below n))
      have HD := Lib.hid hD
      unfold maxLen at hac hbc
      clear a0 a1 a2 b0 b1 b2 hacell hbcell hea heb hra hrb
      go_wp2_with fail
      go_quiet (fail)
      go_wp2_with fail
      go_roundw
      case rel => exact ⟨k + 1, hlt, by simp, HD.out.drewN _⟩
      case measure => simp [intOf]; omega
    · obtain rfl : k = l.length := by omega
      go_wp2_with fail
      go_ret
      exact ⟨rfl, hD⟩
end Go.Proofs.Ytoaoldhajpbenaa

namespace Go.Proofs.Ytoaoldhajpbenaa
open Go.RowKit

/-- What PackMsg made lets the message be short. -/
theorem fine_of_long {m : Msg} (h : longB m = false) : Fine m := by
  unfold longB at h
  simp only [Bool.or_eq_false_iff, decide_eq_false_iff_not] at h
  obtain ⟨⟨-, h2⟩, h3⟩ := h
  unfold msgSize at h3
  refine ⟨by omega, fun e he => ?_⟩
  have key : ∀ l : List Ent, e ∈ l → e.cmd.length ≤ entsSize l := by
    intro l
    induction l with
    | nil => intro h; cases h
    | cons a l ih =>
      intro h
      have hs : entsSize (a :: l) = 9 + a.cmd.length + entsSize l := rfl
      rcases List.mem_cons.1 h with rfl | h
      · omega
      · have := ih h; omega
  have := key m.l he
  omega

set_option maxRecDepth 100000 in
set_option maxHeartbeats 2000000 in
theorem sameMsg_eq {S T : Nat → Prop} (m : Msg) (vl vd ul ud : Value) (w : World) (ha : MsgAt S w m vl vd) (hb : MsgAt T w m ul ud) :
    Calls Try.prog 37 #[.agg (msgCells m vl vd).toArray, .agg (msgCells m ul ud).toArray] w fun e w' => e = .returned (.bool true) ∧ Below w.heap.size w w' := by
  obtain ⟨haE, haD, -⟩ := ha
  obtain ⟨hbE, hbD, -⟩ := hb
  obtain ⟨k0, k1, k2, k3, k4, k5, k6, k7, yes, l, data⟩ := m
  simp only [msgCells] at haE haD hbE hbD ⊢
  obtain ⟨A, cA, rfl⟩ := haE.slice
  obtain ⟨B, cB, rfl⟩ := haD.slice
  obtain ⟨C, cC, rfl⟩ := hbE.slice
  obtain ⟨D, cD, rfl⟩ := hbD.slice
  have b1 := box_below w (.cells #[.int .i64 k0, .int .i64 k1, .int .i64 k2, .int .i64 k3, .int .i64 k4, .int .i64 k5, .int .i64 k6, .int .i64 k7, .bool yes, .slice A l.length cA, .slice B data.length cB] 65)
  have A1 := blk_new w (.cells #[.int .i64 k0, .int .i64 k1, .int .i64 k2, .int .i64 k3, .int .i64 k4, .int .i64 k5, .int .i64 k6, .int .i64 k7, .bool yes, .slice A l.length cA, .slice B data.length cB] 65)
  obtain ⟨W1, hW1⟩ : ∃ W, w.alloc (.cells #[.int .i64 k0, .int .i64 k1, .int .i64 k2, .int .i64 k3, .int .i64 k4, .int .i64 k5, .int .i64 k6, .int .i64 k7, .bool yes, .slice A l.length cA, .slice B data.length cB] 65) = W := ⟨_, rfl⟩
  rw [hW1] at b1 A1
  have b2 := box_below W1 (.cells #[.int .i64 k0, .int .i64 k1, .int .i64 k2, .int .i64 k3, .int .i64 k4, .int .i64 k5, .int .i64 k6, .int .i64 k7, .bool yes, .slice C l.length cC, .slice D data.length cD] 65)
  have A2 := blk_keep b2 A1
  have B2 := blk_new W1 (.cells #[.int .i64 k0, .int .i64 k1, .int .i64 k2, .int .i64 k3, .int .i64 k4, .int .i64 k5, .int .i64 k6, .int .i64 k7, .bool yes, .slice C l.length cC, .slice D data.length cD] 65)
  obtain ⟨W2, hW2⟩ : ∃ W, W1.alloc (.cells #[.int .i64 k0, .int .i64 k1, .int .i64 k2, .int .i64 k3, .int .i64 k4, .int .i64 k5, .int .i64 k6, .int .i64 k7, .bool yes, .slice C l.length cC, .slice D data.length cD] 65) = W := ⟨_, rfl⟩
  rw [hW2] at b2 A2 B2
  have bb := below_then b1 b2
  obtain ⟨⟨a0, a1, a2, a3, a4, a5, a6, a7, a8, a9, a10⟩, -⟩ := cells11 A2
  obtain ⟨⟨c0, c1, c2, c3, c4, c5, c6, c7, c8, c9, c10⟩, -⟩ := cells11 B2
  have HS := Lib.hid (same_eq _ _ l _ (haE.keep bb) (hbE.keep bb))
  have HA := Lib.hid A2
  have HB := Lib.hid B2
  have HaD := Lib.hid (haD.keep bb)
  have HbD := Lib.hid (hbD.keep bb)
  have Hbb := Lib.hid bb
  clear haE haD hbE hbD b1 A1 b2 A2 B2 bb
  go_enter Try.func37, Try.ntmps37
  go_wp2_with fail
  clear a0 a1 a2 a3 a4 a5 a6 a7 a8 a9 a10 c0 c1 c2 c3 c4 c5 c6 c7 c8 c9 c10
  refine HS.out.mono ?_
  rintro _ W3 ⟨rfl, hD⟩
  have a10 := (cells11 (blk_keep hD.below HA.out)).1.2.2.2.2.2.2.2.2.2.2
  have c10 := (cells11 (blk_keep hD.below HB.out)).1.2.2.2.2.2.2.2.2.2.2
  have sa := bytes_str (HaD.out.keep hD.below)
  have sb := bytes_str (HbD.out.keep hD.below)
  have HD := Lib.hid hD
  clear hD
  go_wp2_with fail
  go_ret
  exact ⟨rfl, below_then Hbb.out HD.out.below⟩
end Go.Proofs.Ytoaoldhajpbenaa

namespace Go.Proofs.Ytoaoldhajpbenaa
open Go.RowKit

theorem set11 {W : World} {b : Nat} {x0 x1 x2 x3 x4 x5 x6 x7 x8 x9 x10 : Value} {t : TypeId} (h : W.heap[b]? = some (.cells #[x0, x1, x2, x3, x4, x5, x6, x7, x8, x9, x10] t (0, 0))) (y0 y1 y2 y3 y4 y5 y6 y7 y8 y9 y10 : Value) :
    (((((((((((W.setCell ⟨b, 0, none⟩ y0).setCell ⟨b, 1, none⟩ y1).setCell ⟨b, 2, none⟩ y2).setCell ⟨b, 3, none⟩ y3).setCell ⟨b, 4, none⟩ y4).setCell ⟨b, 5, none⟩ y5).setCell ⟨b, 6, none⟩ y6).setCell ⟨b, 7, none⟩ y7).setCell ⟨b, 8, none⟩ y8).setCell ⟨b, 9, none⟩ y9).setCell ⟨b, 10, none⟩ y10).heap[b]? = some (.cells #[y0, y1, y2, y3, y4, y5, y6, y7, y8, y9, y10] t (0, 0)) := by
  simp [World.setCell, Array.getElem?_modify, h]
theorem below11 {n b : Nat} {w W : World} (h : Below n w W) (hn : n ≤ b) (y0 y1 y2 y3 y4 y5 y6 y7 y8 y9 y10 : Value) :
    Below n w (((((((((((W.setCell ⟨b, 0, none⟩ y0).setCell ⟨b, 1, none⟩ y1).setCell ⟨b, 2, none⟩ y2).setCell ⟨b, 3, none⟩ y3).setCell ⟨b, 4, none⟩ y4).setCell ⟨b, 5, none⟩ y5).setCell ⟨b, 6, none⟩ y6).setCell ⟨b, 7, none⟩ y7).setCell ⟨b, 8, none⟩ y8).setCell ⟨b, 9, none⟩ y9).setCell ⟨b, 10, none⟩ y10) :=
  ((((((((((h.setCell (p := ⟨b, 0, none⟩) hn y0).setCell (p := ⟨b, 1, none⟩) hn y1).setCell (p := ⟨b, 2, none⟩) hn y2).setCell (p := ⟨b, 3, none⟩) hn y3).setCell (p := ⟨b, 4, none⟩) hn y4).setCell (p := ⟨b, 5, none⟩) hn y5).setCell (p := ⟨b, 6, none⟩) hn y6).setCell (p := ⟨b, 7, none⟩) hn y7).setCell (p := ⟨b, 8, none⟩) hn y8).setCell (p := ⟨b, 9, none⟩) hn y9).setCell (p := ⟨b, 10, none⟩) hn y10
theorem rdNum_one (x : UInt8) (r : List UInt8) : rdNum 1 (x :: r, 0) = ((x.toNat : Int), (r, 0)) := by
  unfold rdNum
  rw [if_neg (by simp), if_neg (by simp)]
  show (((beVal [x] : Nat) : Int), (r, (0 : Int))) = _
  have : beVal [x] = x.toNat := by simp [beVal]
  rw [this]

set_option maxRecDepth 100000 in
set_option maxHeartbeats 4000000 in
theorem unpackMsg_none {S : Nat → Prop} (v : Value) (xs : List UInt8) (w : World) (hv : Bytes S w v xs) (_h1 : xs.length ≤ 65536) (h2 : xs.length = 4) (hs : beVal (xs.drop (xs.length - 4)) = crcSum (xs.take (xs.length - 4))) :
    Calls Try.prog 35 #[v] w (UnpTo w xs) := by
  have e : unpMsg xs = (zeroMsg, 11) := by unfold unpMsg; rw [if_neg (by omega), if_neg (by omega), if_neg (by omega), if_pos (.inl h2)]
  have hb0 := box_below w (.cells #[.int .i64 0, .int .i64 0, .int .i64 0, .int .i64 0, .int .i64 0, .int .i64 0, .int .i64 0, .int .i64 0, .bool false, .slice none 0 0, .slice none 0 0] 65)
  have hg := get_yes v xs (xs.length - 4) 4 _ (hv.keep hb0) (by omega) (by omega) (by omega)
  rw [List.take_of_length_le (by simp; omega)] at hg
  obtain ⟨a1, n1, k1, hb1, hn1, hr1⟩ := bytes_h (hv.keep hb0) ((xs.length : Int) - 4) (by omega) (by omega)
  rw [show ((xs.length : Int) - 4).toNat = xs.length - 4 by omega] at hb1
  have hsum := sum_any (.slice a1 n1 k1) _ _ hb1
  have hlt : beVal (xs.drop (xs.length - 4)) < 4294967296 := by have := beVal_lt (xs.drop (xs.length - 4)); rw [List.length_drop, show xs.length - (xs.length - 4) = 4 by omega] at this; simpa using this
  have r1 := fun w0 => hr1 w0 .i64
  have hcast : ((xs.length - 4 : Nat) : Int) = (xs.length : Int) - 4 := by omega
  rw [hcast, hs] at hg
  rw [hs] at hlt
  have hnr := newReader_any _ _ _ _ hb1 (by simp; omega)
  obtain ⟨A, c, rfl⟩ := hv.slice
  obtain ⟨F, hF⟩ : ∃ F, F = xs.take (xs.length - 4) := ⟨_, rfl⟩
  have hFl : F.length + 4 = xs.length := by rw [hF]; simp; omega
  rw [← hF] at hg hsum hlt hnr
  generalize crcSum F = s1 at *
  have HB := Lib.hid hb0
  have hR := blk_new w (.cells #[.int .i64 0, .int .i64 0, .int .i64 0, .int .i64 0, .int .i64 0, .int .i64 0, .int .i64 0, .int .i64 0, .bool false, .slice none 0 0, .slice none 0 0] 65)
  obtain ⟨⟨d0, d1, d2, d3, d4, d5, d6, d7, d8, d9, d10⟩, -⟩ := cells11 hR
  have HR := Lib.hid hR
  obtain ⟨D, hD⟩ : ∃ D : Int, D = xs.length := ⟨_, rfl⟩
  have h1' : ¬ (65536 < D) := by omega
  have h2' : 4 ≤ D := by omega
  obtain ⟨I1, hI1⟩ : ∃ I : Int, I = s1 := ⟨_, rfl⟩
  have i0 : 0 ≤ I1 := by omega
  have i1 : I1 < 4294967296 := by omega
  rw [← hI1] at hg hsum
  have Hg := Lib.hid hg
  have Hsum := Lib.hid hsum
  have Hnr := Lib.hid hnr
  have HF := Lib.hid (And.intro hF hFl)
  have h4' : D = 4 := by omega
  have HE := Lib.hid e
  clear e hv hg hsum hb1 hr1 hn1 hb0 hs hI1 hlt hcast _h1 hF hFl hnr hR
  have hz : ((xs.length : Int) - 4 == 0) = true := by simp; omega
  clear h4' h2
  go_enter Try.func35, Try.ntmps35
  go_wp2_with (first | (go_at_call 73; refine Hg.out.mono ?_; rintro _ _ ⟨rfl, rfl⟩) | (go_at_call 68; refine Hsum.out.mono ?_; rintro _ _ ⟨rfl, rfl⟩))
  refine Hnr.out.mono ?_
  rintro _ w1 ⟨g, rfl, hgW, hrd, hb1⟩
  have hR1 := blk_keep hb1 HR.out
  obtain ⟨⟨d0, d1, d2, d3, d4, d5, d6, d7, d8, d9, d10⟩, -⟩ := cells11 hR1
  obtain ⟨f0, f1, f2, f3, f4, f5, f6, f7, f8, f9, f10⟩ := frozen11 hR1
  have HB1 := Lib.hid (HB.out.trans (hb1.mono (by simp)))
  have HRX := Lib.hid hR1
  clear hR1 hrd hgW hb1
  go_wp2_with fail
  have hh := HRX.out
  have hq := @set11 w1 w.heap.size _ _ _ _ _ _ _ _ _ _ _ _ hh
  have hZ := hq (.int .i64 0) (.int .i64 0) (.int .i64 0) (.int .i64 0) (.int .i64 0) (.int .i64 0) (.int .i64 0) (.int .i64 0) (.bool false) (.slice none 0 0) (.slice none 0 0)
  have hBZ : Below w.heap.size w (((((((((((w1.setCell ⟨w.heap.size, 0, none⟩ (.int .i64 0)).setCell ⟨w.heap.size, 1, none⟩ (.int .i64 0)).setCell ⟨w.heap.size, 2, none⟩ (.int .i64 0)).setCell ⟨w.heap.size, 3, none⟩ (.int .i64 0)).setCell ⟨w.heap.size, 4, none⟩ (.int .i64 0)).setCell ⟨w.heap.size, 5, none⟩ (.int .i64 0)).setCell ⟨w.heap.size, 6, none⟩ (.int .i64 0)).setCell ⟨w.heap.size, 7, none⟩ (.int .i64 0)).setCell ⟨w.heap.size, 8, none⟩ (.bool false)).setCell ⟨w.heap.size, 9, none⟩ (.slice none 0 0)).setCell ⟨w.heap.size, 10, none⟩ (.slice none 0 0)) := by
    exact below11 HB1.out (Nat.le_refl _) _ _ _ _ _ _ _ _ _ _ _
  obtain ⟨WF, hWF⟩ : ∃ W, (((((((((((w1.setCell ⟨w.heap.size, 0, none⟩ (.int .i64 0)).setCell ⟨w.heap.size, 1, none⟩ (.int .i64 0)).setCell ⟨w.heap.size, 2, none⟩ (.int .i64 0)).setCell ⟨w.heap.size, 3, none⟩ (.int .i64 0)).setCell ⟨w.heap.size, 4, none⟩ (.int .i64 0)).setCell ⟨w.heap.size, 5, none⟩ (.int .i64 0)).setCell ⟨w.heap.size, 6, none⟩ (.int .i64 0)).setCell ⟨w.heap.size, 7, none⟩ (.int .i64 0)).setCell ⟨w.heap.size, 8, none⟩ (.bool false)).setCell ⟨w.heap.size, 9, none⟩ (.slice none 0 0)).setCell ⟨w.heap.size, 10, none⟩ (.slice none 0 0)) = W := ⟨_, rfl⟩
  rw [hWF] at hZ hBZ ⊢
  obtain ⟨⟨z0, z1, z2, z3, z4, z5, z6, z7, z8, z9, z10⟩, -⟩ := cells11 hZ
  clear hWF
  exact bodyPost_ret (v := .tuple #[.agg #[.int .i64 0, .int .i64 0, .int .i64 0, .int .i64 0, .int .i64 0, .int .i64 0, .int .i64 0, .int .i64 0, .bool false, .slice none 0 0, .slice none 0 0], .int .i64 11]) (by simp [results, Try.results35, go_sem, z0, z1, z2, z3, z4, z5, z6, z7, z8, z9, z10]) rfl (unpTo_zero HE.out hBZ)

set_option maxRecDepth 100000 in
set_option maxHeartbeats 4000000 in
theorem unpackMsg_mark {S : Nat → Prop} (v : Value) (xs : List UInt8) (w : World) (hv : Bytes S w v xs) (h1 : xs.length ≤ 65536) (h2 : 4 < xs.length) (hs : beVal (xs.drop (xs.length - 4)) = crcSum (xs.take (xs.length - 4))) (hm : xs.headD 0 ≠ 202) :
    Calls Try.prog 35 #[v] w (UnpTo w xs) := by
  have e : unpMsg xs = (zeroMsg, 11) := by unfold unpMsg; rw [if_neg (by omega), if_neg (by omega), if_neg (by omega), if_pos (.inr hm)]
  have hb0 := box_below w (.cells #[.int .i64 0, .int .i64 0, .int .i64 0, .int .i64 0, .int .i64 0, .int .i64 0, .int .i64 0, .int .i64 0, .bool false, .slice none 0 0, .slice none 0 0] 65)
  have hg := get_yes v xs (xs.length - 4) 4 _ (hv.keep hb0) (by omega) (by omega) (by omega)
  rw [List.take_of_length_le (by simp; omega)] at hg
  obtain ⟨a1, n1, k1, hb1, hn1, hr1⟩ := bytes_h (hv.keep hb0) ((xs.length : Int) - 4) (by omega) (by omega)
  rw [show ((xs.length : Int) - 4).toNat = xs.length - 4 by omega] at hb1
  have hsum := sum_any (.slice a1 n1 k1) _ _ hb1
  have hlt : beVal (xs.drop (xs.length - 4)) < 4294967296 := by have := beVal_lt (xs.drop (xs.length - 4)); rw [List.length_drop, show xs.length - (xs.length - 4) = 4 by omega] at this; simpa using this
  have r1 := fun w0 => hr1 w0 .i64
  have hcast : ((xs.length - 4 : Nat) : Int) = (xs.length : Int) - 4 := by omega
  rw [hcast, hs] at hg
  rw [hs] at hlt
  have hnr := newReader_any _ _ _ _ hb1 (by simp; omega)
  obtain ⟨A, c, rfl⟩ := hv.slice
  obtain ⟨F, hF⟩ : ∃ F, F = xs.take (xs.length - 4) := ⟨_, rfl⟩
  have hFl : F.length + 4 = xs.length := by rw [hF]; simp; omega
  rw [← hF] at hg hsum hlt hnr
  generalize crcSum F = s1 at *
  have HB := Lib.hid hb0
  have hR := blk_new w (.cells #[.int .i64 0, .int .i64 0, .int .i64 0, .int .i64 0, .int .i64 0, .int .i64 0, .int .i64 0, .int .i64 0, .bool false, .slice none 0 0, .slice none 0 0] 65)
  obtain ⟨⟨d0, d1, d2, d3, d4, d5, d6, d7, d8, d9, d10⟩, -⟩ := cells11 hR
  have HR := Lib.hid hR
  obtain ⟨D, hD⟩ : ∃ D : Int, D = xs.length := ⟨_, rfl⟩
  have h1' : ¬ (65536 < D) := by omega
  have h2' : 4 ≤ D := by omega
  obtain ⟨I1, hI1⟩ : ∃ I : Int, I = s1 := ⟨_, rfl⟩
  have i0 : 0 ≤ I1 := by omega
  have i1 : I1 < 4294967296 := by omega
  rw [← hI1] at hg hsum
  have Hg := Lib.hid hg
  have Hsum := Lib.hid hsum
  have Hnr := Lib.hid hnr
  have HF := Lib.hid (And.intro hF hFl)
  have HE := Lib.hid e
  have hz : ((xs.length : Int) - 4 == 0) = false := by simp; omega
  obtain ⟨x, G, hxG⟩ : ∃ x G, F = x :: G := by
    cases F with
    | nil => simp at hFl; omega
    | cons x G => exact ⟨x, G, rfl⟩
  have hx : xs.headD 0 = x := by
    have h3 : xs = F ++ xs.drop (xs.length - 4) := by rw [hF, List.take_append_drop]
    rw [h3, hxG]
    rfl
  rw [hx] at hm
  have hx2 : ((x.toNat : Int) != 202) = true := by
    simp
    intro h
    apply hm
    apply UInt8.toNat_inj.1
    show x.toNat = 202
    omega
  have HxG := Lib.hid hxG
  clear e hv hg hsum hb1 hr1 hn1 hb0 hs hI1 hlt hcast h1 hF hFl hnr hR h2 hx hm hxG
  go_enter Try.func35, Try.ntmps35
  go_wp2_with (first | (go_at_call 73; refine Hg.out.mono ?_; rintro _ _ ⟨rfl, rfl⟩) | (go_at_call 68; refine Hsum.out.mono ?_; rintro _ _ ⟨rfl, rfl⟩))
  refine Hnr.out.mono ?_
  rintro _ w1 ⟨g, rfl, hgW, hrd, hb1⟩
  have HR1 := Lib.hid (blk_keep hb1 HR.out)
  have HB1 := Lib.hid (HB.out.trans (hb1.mono (by simp)))
  have hn1 := rnum_any _ g F 0 1 w1 hrd (by omega) (by omega)
  rw [HxG.out, rdNum_one] at hn1
  have Hn1 := Lib.hid hn1
  have hgw : w.heap.size + 1 ≤ g := by simpa using hgW
  clear hrd hgW hb1 hn1
  go_wp2_with fail
  refine Hn1.out.mono ?_
  rintro _ w2 ⟨rfl, hrd2, hg2⟩
  have hR2 := grown_blk hg2 (b := w.heap.size) (by simp; omega) HR1.out
  obtain ⟨⟨d0, d1, d2, d3, d4, d5, d6, d7, d8, d9, d10⟩, -⟩ := cells11 hR2
  obtain ⟨f0, f1, f2, f3, f4, f5, f6, f7, f8, f9, f10⟩ := frozen11 hR2
  have HB2 := Lib.hid (HB1.out.grown hg2 HB1.out.size (by intro k hk; injection hk with hk; omega))
  have HRX := Lib.hid hR2
  clear hrd2 hg2 hR2
  go_wp2_with fail
  have hh := HRX.out
  have hq := @set11 w2 w.heap.size _ _ _ _ _ _ _ _ _ _ _ _ hh
  have hZ := hq (.int .i64 0) (.int .i64 0) (.int .i64 0) (.int .i64 0) (.int .i64 0) (.int .i64 0) (.int .i64 0) (.int .i64 0) (.bool false) (.slice none 0 0) (.slice none 0 0)
  have hBZ : Below w.heap.size w (((((((((((w2.setCell ⟨w.heap.size, 0, none⟩ (.int .i64 0)).setCell ⟨w.heap.size, 1, none⟩ (.int .i64 0)).setCell ⟨w.heap.size, 2, none⟩ (.int .i64 0)).setCell ⟨w.heap.size, 3, none⟩ (.int .i64 0)).setCell ⟨w.heap.size, 4, none⟩ (.int .i64 0)).setCell ⟨w.heap.size, 5, none⟩ (.int .i64 0)).setCell ⟨w.heap.size, 6, none⟩ (.int .i64 0)).setCell ⟨w.heap.size, 7, none⟩ (.int .i64 0)).setCell ⟨w.heap.size, 8, none⟩ (.bool false)).setCell ⟨w.heap.size, 9, none⟩ (.slice none 0 0)).setCell ⟨w.heap.size, 10, none⟩ (.slice none 0 0)) := by
    exact below11 HB2.out (Nat.le_refl _) _ _ _ _ _ _ _ _ _ _ _
  obtain ⟨WF, hWF⟩ : ∃ W, (((((((((((w2.setCell ⟨w.heap.size, 0, none⟩ (.int .i64 0)).setCell ⟨w.heap.size, 1, none⟩ (.int .i64 0)).setCell ⟨w.heap.size, 2, none⟩ (.int .i64 0)).setCell ⟨w.heap.size, 3, none⟩ (.int .i64 0)).setCell ⟨w.heap.size, 4, none⟩ (.int .i64 0)).setCell ⟨w.heap.size, 5, none⟩ (.int .i64 0)).setCell ⟨w.heap.size, 6, none⟩ (.int .i64 0)).setCell ⟨w.heap.size, 7, none⟩ (.int .i64 0)).setCell ⟨w.heap.size, 8, none⟩ (.bool false)).setCell ⟨w.heap.size, 9, none⟩ (.slice none 0 0)).setCell ⟨w.heap.size, 10, none⟩ (.slice none 0 0)) = W := ⟨_, rfl⟩
  rw [hWF] at hZ hBZ ⊢
  obtain ⟨⟨z0, z1, z2, z3, z4, z5, z6, z7, z8, z9, z10⟩, -⟩ := cells11 hZ
  clear hWF
  exact bodyPost_ret (v := .tuple #[.agg #[.int .i64 0, .int .i64 0, .int .i64 0, .int .i64 0, .int .i64 0, .int .i64 0, .int .i64 0, .int .i64 0, .bool false, .slice none 0 0, .slice none 0 0], .int .i64 11]) (by simp [results, Try.results35, go_sem, z0, z1, z2, z3, z4, z5, z6, z7, z8, z9, z10]) rfl (unpTo_zero HE.out hBZ)
end Go.Proofs.Ytoaoldhajpbenaa

namespace Go.Proofs.Ytoaoldhajpbenaa
open Go.RowKit

/-- The walk over a message's fields: its reader in block g, the message so far in block M; the result's block is W0's next. -/
def Ur (W0 : World) (S : Nat → Prop) (g M : Nat) (w : World) (st : List UInt8 × Int) (cs : Array Value) : Prop :=
  RdAt 143 S w g st.1 st.2 ∧ w.heap[M]? = some (.cells cs 65 (0, 0)) ∧
  w.heap[W0.heap.size]? = some (.cells #[.int .i64 0, .int .i64 0, .int .i64 0, .int .i64 0, .int .i64 0, .int .i64 0, .int .i64 0, .int .i64 0, .bool false, .slice none 0 0, .slice none 0 0] 65 (0, 0)) ∧
  Below W0.heap.size W0 w ∧ ¬ S M ∧ g ≠ M ∧ W0.heap.size < g ∧ W0.heap.size < M
theorem Ur.num {W0 w w' : World} {S : Nat → Prop} {g M : Nat} {st st' : List UInt8 × Int} {cs : Array Value} (h : Ur W0 S g M w st cs) (hr : RdAt 143 S w' g st'.1 st'.2) (hg : w.grownBy w' (some g)) : Ur W0 S g M w' st' cs := by
  obtain ⟨h1, h2, h3, h4, h5, h6, h7, h8⟩ := h
  exact ⟨hr, grown_blk hg (by intro e; injection e with e; omega) h2, grown_blk hg (by intro e; injection e with e; omega) h3, h4.grown hg h4.size (by intro k hk; injection hk with hk; omega), h5, h6, h7, h8⟩
theorem Ur.set {W0 w : World} {S : Nat → Prop} {g M : Nat} {st : List UInt8 × Int} {cs : Array Value} (h : Ur W0 S g M w st cs) (k : Nat) (u : Value) : Ur W0 S g M (w.setCell ⟨M, k, none⟩ u) st (cs.setIfInBounds k u) := by
  obtain ⟨h1, h2, h3, h4, h5, h6, h7, h8⟩ := h
  refine ⟨h1.set h5 h6 u, ?_, (Below.heap_setCell w ⟨M, k, none⟩ u _ (by simp; omega)).trans h3, h4.setCell (p := ⟨M, k, none⟩) (by simp; omega) u, h5, h6, h7, h8⟩
  simp [World.setCell, Array.getElem?_modify, h2]
theorem Ur.below {W0 w w' : World} {S : Nat → Prop} {g M : Nat} {st : List UInt8 × Int} {cs : Array Value} (h : Ur W0 S g M w st cs) (hb : Below w.heap.size w w') : Ur W0 S g M w' st cs := by
  obtain ⟨h1, h2, h3, h4, h5, h6, h7, h8⟩ := h
  exact ⟨h1.keep hb, blk_keep hb h2, blk_keep hb h3, h4.trans (hb.mono h4.size), h5, h6, h7, h8⟩

/-- Where the entries' bytes and the reader's lie: not where their row does. -/
def SL (W0 : World) (g M : Nat) (vL : Value) : Nat → Prop := fun b => W0.heap.size + 1 ≤ b ∧ b ≠ g ∧ b ≠ M ∧ vL.ownBlock ≠ some b
/-- The walk over a message's entries: those so far, in a row of their own. -/
def Lr (W0 : World) (g M : Nat) (w : World) (st : List UInt8 × Int) (cs : Array Value) (vL : Value) (es : List Ent) : Prop :=
  Ur W0 (SL W0 g M vL) g M w st cs ∧ ∃ es', w.ownsRow (W0.heap.size + 1) 33 3 vL es.length es' ∧ EntCells (SL W0 g M vL) w es es'
theorem own_lt {w : World} {B size n : Nat} {e : TypeId} {v : Value} {xs : List Value} (h : w.ownsRow B e size v n xs) : ∀ k, v.ownBlock = some k → k < w.heap.size := by
  intro k hk
  rcases h.2 with ⟨rfl, _⟩ | ⟨g', cap, cur, rfl, hb, hg, _⟩
  · simp [Value.ownBlock] at hk
  · obtain rfl : g' = k := by simpa [Value.ownBlock] using hk
    exact (Array.getElem?_eq_some_iff.1 hg).1
theorem Lr.below {W0 w w' : World} {g M : Nat} {st : List UInt8 × Int} {cs : Array Value} {vL : Value} {es : List Ent} (h : Lr W0 g M w st cs vL es) (hb : Below w.heap.size w w') : Lr W0 g M w' st cs vL es := by
  obtain ⟨h1, es', h2, h3⟩ := h
  exact ⟨h1.below hb, es', own_keep h2 hb, h3.keepS (Same.of_below' hb _)⟩
theorem Lr.set {W0 w : World} {g M : Nat} {st : List UInt8 × Int} {cs : Array Value} {vL : Value} {es : List Ent} (h : Lr W0 g M w st cs vL es) (k : Nat) (u : Value) : Lr W0 g M (w.setCell ⟨M, k, none⟩ u) st (cs.setIfInBounds k u) vL es := by
  obtain ⟨h1, es', h2, h3⟩ := h
  exact ⟨h1.set k u, es', own_put h2 h1.2.1 (by decide) u, h3.keepS ((Same.refl _ _).setCell h1.2.2.2.2.1 _)⟩
theorem lr_entry {W0 w : World} {g M : Nat} {st st' : List UInt8 × Int} {cs : Array Value} {vL : Value} {es : List Ent} {en : Ent} (h : Lr W0 g M w st cs vL es) (he : (en, st') = rdEnt st) :
    Calls Try.prog 58 #[.pointer (some ⟨g, 0, none⟩)] w fun e w' => ∃ u, e = .returned (.agg #[.int .i64 en.kind, .int .i64 en.term, u]) ∧ Lr W0 g M w' st' cs vL es ∧ Bytes (SL W0 g M vL) w' u en.cmd := by
  have hn := eread_any (SL W0 g M vL) g st.1 st.2 w h.1.1
  rw [show (st.1, st.2) = st from rfl, ← he] at hn
  refine hn.mono ?_
  rintro _ w' ⟨u, rfl, hown, hr, hg⟩
  obtain ⟨h1, es', h2, h3⟩ := h
  have h1' := h1
  obtain ⟨⟨hS, v, hblk, hby⟩, a2, a3, a4, a5, a6, a7, a8⟩ := h1
  have hgl : g < w.heap.size := (Array.getElem?_eq_some_iff.1 hblk).1
  have hml : M < w.heap.size := (Array.getElem?_eq_some_iff.1 a2).1
  have hrl : W0.heap.size < w.heap.size := (Array.getElem?_eq_some_iff.1 a3).1
  refine ⟨u, rfl, ⟨h1'.num hr hg, es', h2.kept (row := some g) hg (.inr (own_ne h2 hblk (by decide))), h3.keepS (same_grownG hg hS)⟩, (RowAt.of_own hown).mono fun b _ hb => ⟨?_, ?_, ?_, ?_⟩⟩
  · omega
  · omega
  · omega
  · intro hk
    have := own_lt h2 b hk
    omega
theorem lr_push {W0 w w' : World} {g M g3 cap : Nat} {st : List UInt8 × Int} {cs : Array Value} {vL u : Value} {es : List Ent} {en : Ent} {es' : List Value} (h1 : Ur W0 (SL W0 g M vL) g M w st cs) (h2 : w.ownsRow (W0.heap.size + 1) 33 3 vL es.length es') (h3 : EntCells (SL W0 g M vL) w es es')
    (hu : Bytes (SL W0 g M vL) w u en.cmd) (hk : in64 en.kind) (ht : in64 en.term)
    (hn : w'.ownsRow (W0.heap.size + 1) 33 3 (.slice (some ⟨g3, 0, none⟩) (es.length + 1) cap) (es.length + 1) (es' ++ [.int .i64 en.kind, .int .i64 en.term, u])) (hg : w.grownBy w' vL.ownBlock) (hat : vL.ownBlock = some g3 ∨ g3 = w.heap.size) :
    Lr W0 g M w' st cs (.slice (some ⟨g3, 0, none⟩) (es.length + 1) cap) (es ++ [en]) := by
  obtain ⟨hR, a2, a3, a4, a5, a6, a7, a8⟩ := h1
  have hS3 : ∀ b, b < w.heap.size → SL W0 g M vL b → SL W0 g M vL b ∧ b ≠ g3 := by
    intro b hb hs
    refine ⟨hs, ?_⟩
    rintro rfl
    rcases hat with h | h
    · exact hs.2.2.2 h
    · omega
  have hsame : Same (fun b => SL W0 g M vL b ∧ b ≠ g3) w w' := same_grownO hg fun k hk hs => hs.1.2.2.2 hk
  have hT : ∀ b, b < w'.heap.size → SL W0 g M vL b ∧ b ≠ g3 → SL W0 g M (.slice (some ⟨g3, 0, none⟩) (es.length + 1) cap) b := by
    intro b _ hs
    refine ⟨hs.1.1, hs.1.2.1, hs.1.2.2.1, ?_⟩
    intro hk
    exact hs.2 (by simpa [Value.ownBlock] using hk.symm)
  have hgS : ¬ SL W0 g M (.slice (some ⟨g3, 0, none⟩) (es.length + 1) cap) g := fun hs => hs.2.1 rfl
  have hMS : ¬ SL W0 g M (.slice (some ⟨g3, 0, none⟩) (es.length + 1) cap) M := fun hs => hs.2.2.1 rfl
  have hR' := hR
  obtain ⟨hS, v, hblk, hby⟩ := hR'
  have hge : ∀ k, vL.ownBlock = some k → W0.heap.size + 1 ≤ k := own_blk_ge h2
  refine ⟨⟨⟨hgS, v, grown_blk hg (fun e => own_ne h2 hblk (by decide) e.symm) hblk, ((hby.mono hS3).keepS hsame).mono hT⟩, grown_blk hg (fun e => own_ne h2 a2 (by decide) e.symm) a2, grown_blk hg (fun e => own_ne h2 a3 (by decide) e.symm) a3,
    a4.grown hg a4.size (fun k hk => by have := hge k hk; omega), hMS, a6, a7, a8⟩, _, by rw [List.length_append]; exact hn, ?_⟩
  refine EntCells.append (((h3.mono hS3).keepS hsame).mono hT) ⟨u, [], rfl, hk, ht, ((hu.mono hS3).keepS hsame).mono hT, rfl⟩

/-- The walk over a message's fields, its data too. -/
def Fr (W0 : World) (g M : Nat) (w : World) (st : List UInt8 × Int) (cs : Array Value) (vL : Value) (es : List Ent) (vd : Value) (d : List UInt8) : Prop :=
  Lr W0 g M w st cs vL es ∧ Bytes (SL W0 g M vL) w vd d
theorem Fr.below {W0 w w' : World} {g M : Nat} {st : List UInt8 × Int} {cs : Array Value} {vL vd : Value} {es : List Ent} {d : List UInt8} (h : Fr W0 g M w st cs vL es vd d) (hb : Below w.heap.size w w') : Fr W0 g M w' st cs vL es vd d := ⟨h.1.below hb, h.2.keep hb⟩
theorem Fr.set {W0 w : World} {g M : Nat} {st : List UInt8 × Int} {cs : Array Value} {vL vd : Value} {es : List Ent} {d : List UInt8} (h : Fr W0 g M w st cs vL es vd d) (k : Nat) (u : Value) : Fr W0 g M (w.setCell ⟨M, k, none⟩ u) st (cs.setIfInBounds k u) vL es vd d :=
  ⟨h.1.set k u, h.2.keepS ((Same.refl _ _).setCell (fun hs => hs.2.2.1 rfl) _)⟩
theorem Fr.msg {W0 w : World} {g M : Nat} {st : List UInt8 × Int} {cs : Array Value} {vL vd : Value} {m : Msg} (h : Fr W0 g M w st cs vL m.l vd m.data) (hm : in64 m.kind ∧ in64 m.src ∧ in64 m.dst ∧ in64 m.term ∧ in64 m.at_ ∧ in64 m.atTerm ∧ in64 m.commit ∧ in64 m.round) : MsgAt (W0.heap.size + 1 ≤ ·) w m vL vd := by
  obtain ⟨⟨h1, es', h2, h3⟩, h4⟩ := h
  exact ⟨⟨es', RowAt.of_own h2, h3.mono fun b _ hs => hs.1⟩, h4.mono fun b _ hs => hs.1, hm⟩
theorem lr_bytes {W0 w : World} {g M : Nat} {st st' : List UInt8 × Int} {cs : Array Value} {vL : Value} {es : List Ent} {d : List UInt8} (h : Lr W0 g M w st cs vL es) (he : (d, st') = rdBytes 4 st) :
    Calls Try.prog 76 #[.pointer (some ⟨g, 0, none⟩), .int .i64 4] w fun e w' => ∃ u, e = .returned u ∧ Fr W0 g M w' st' cs vL es u d := by
  have hn := rbytes_any (SL W0 g M vL) g st.1 st.2 4 w h.1.1 (by omega)
  rw [show (st.1, st.2) = st from rfl, ← he] at hn
  refine hn.mono ?_
  rintro _ w' ⟨u, rfl, hown, hr, hg⟩
  obtain ⟨h1, es', h2, h3⟩ := h
  have h1' := h1
  obtain ⟨⟨hS, v, hblk, hby⟩, a2, a3, a4, a5, a6, a7, a8⟩ := h1
  have hgl : g < w.heap.size := (Array.getElem?_eq_some_iff.1 hblk).1
  have hml : M < w.heap.size := (Array.getElem?_eq_some_iff.1 a2).1
  have hrl : W0.heap.size < w.heap.size := (Array.getElem?_eq_some_iff.1 a3).1
  refine ⟨u, rfl, ⟨h1'.num hr hg, es', h2.kept (row := some g) hg (.inr (own_ne h2 hblk (by decide))), h3.keepS (same_grownG hg hS)⟩, (RowAt.of_own hown).mono fun b _ hb => ⟨?_, ?_, ?_, ?_⟩⟩
  · omega
  · omega
  · omega
  · intro hk
    have := own_lt h2 b hk
    omega
theorem same11 {S : Nat → Prop} {W : World} {b : Nat} (hn : ¬ S b) (y0 y1 y2 y3 y4 y5 y6 y7 y8 y9 y10 : Value) :
    Same S W (((((((((((W.setCell ⟨b, 0, none⟩ y0).setCell ⟨b, 1, none⟩ y1).setCell ⟨b, 2, none⟩ y2).setCell ⟨b, 3, none⟩ y3).setCell ⟨b, 4, none⟩ y4).setCell ⟨b, 5, none⟩ y5).setCell ⟨b, 6, none⟩ y6).setCell ⟨b, 7, none⟩ y7).setCell ⟨b, 8, none⟩ y8).setCell ⟨b, 9, none⟩ y9).setCell ⟨b, 10, none⟩ y10) :=
  (((((((((((Same.refl S W).setCell (p := ⟨b, 0, none⟩) hn y0).setCell (p := ⟨b, 1, none⟩) hn y1).setCell (p := ⟨b, 2, none⟩) hn y2).setCell (p := ⟨b, 3, none⟩) hn y3).setCell (p := ⟨b, 4, none⟩) hn y4).setCell (p := ⟨b, 5, none⟩) hn y5).setCell (p := ⟨b, 6, none⟩) hn y6).setCell (p := ⟨b, 7, none⟩) hn y7).setCell (p := ⟨b, 8, none⟩) hn y8).setCell (p := ⟨b, 9, none⟩) hn y9).setCell (p := ⟨b, 10, none⟩) hn y10
end Go.Proofs.Ytoaoldhajpbenaa
