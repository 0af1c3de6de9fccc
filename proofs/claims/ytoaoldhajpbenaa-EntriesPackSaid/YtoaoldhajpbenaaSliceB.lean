/- Pieces of bytes: what slicing runs to, under one name. No statement is proved here. -/
import Derived.Test.YtoaoldhajpbenaaEntB
namespace Go.Proofs.Ytoaoldhajpbenaa
open Go.RowKit

theorem sizeU8 (w : World) : (Go.sizeOf 5).run Try.prog w = .ok 1 w := by
  obtain ⟨i0, hi, hz0, hz1, hz2⟩ := info_parts infoU8
  simp [Go.sizeOf, typeInfo, hi, hz1]
theorem elemBytes : Try.prog.elem 31 = 5 := by kernel_rfl

theorem bytes_sliced {S : Nat → Prop} {w : World} {a : Option Addr} {n c : Nat} {xs : List UInt8} (h : Bytes S w (.slice a n c) xs) (l k m : Nat) (h1 : l ≤ k) (h2 : k ≤ n) (h3 : k ≤ m) (h4 : m ≤ c) :
    Bytes S w (sliced a l k m 1) ((xs.take k).drop l) := by
  have hn : n = xs.length := by obtain ⟨A, c1, e⟩ := h.slice; injection e
  subst hn
  have hl : ((xs.take k).drop l).length = k - l := by simp; omega
  unfold sliced
  rcases h.2 with ⟨h0, hv | ⟨a', c', hv⟩⟩ | ⟨b, o, c', hv, hn, hc, hS, hb, hcell⟩
  · injection hv with e1 e2 e3
    subst e1 e3
    have hm : m = 0 := by omega
    subst hm
    have e0 : l = 0 := by omega
    have e5 : k = 0 := by omega
    subst e0 e5
    exact ⟨by simp [byteCells], .inl ⟨by simp, .inl (by simp)⟩⟩
  · injection hv with e1 e2 e3
    subst e1
    refine ⟨by simp [byteCells_length], .inl ⟨by omega, .inr ⟨if m = l then a' else a'.add (l * 1), m - l, ?_⟩⟩⟩
    have : k - l = 0 := by omega
    rw [this]
    split <;> rfl
  · injection hv with e1 e2 e3
    subst e1 e3
    by_cases hkl : k = l
    · subst hkl
      refine ⟨by simp [byteCells_length], .inl ⟨by omega, .inr ⟨if m = k then ⟨b, o, none⟩ else (⟨b, o, none⟩ : Addr).add (k * 1), m - k, ?_⟩⟩⟩
      rw [Nat.sub_self]
      split <;> rfl
    · have hml : m ≠ l := by omega
      rw [if_neg hml]
      refine ⟨by simp [byteCells_length], .inr ⟨b, o + l, m - l, ?_, by omega, by unfold maxLen at *; omega, hS, hb, fun i u hu => ?_⟩⟩
      · rw [hl]
        simp [add_plain]
      · have e : byteCells ((xs.take k).drop l) = ((byteCells xs).take k).drop l := by simp [byteCells]
        rw [e, List.getElem?_drop, List.getElem?_take] at hu
        split at hu
        · have := hcell _ _ hu
          rwa [← Nat.add_assoc] at this
        · cases hu

/-- A piece from l to k. -/
theorem bytes_lh {S : Nat → Prop} {w : World} {v : Value} {xs : List UInt8} (h : Bytes S w v xs) (l k : Int) (h0 : 0 ≤ l) (h1 : l ≤ k) (h2 : k ≤ xs.length) :
    ∃ a n c, Bytes S w (.slice a n c) ((xs.take k.toNat).drop l.toNat) ∧ n = k.toNat - l.toNat ∧ ∀ w0 kl kh, (Instr.sliceAt 31 v (some (.int kl l)) (some (.int kh k)) none).run Try.prog w0 = .ok (.slice a n c) w0 := by
  obtain ⟨A, c, rfl⟩ := h.slice
  have hc : xs.length ≤ c := by
    rcases h.2 with ⟨h0, hv | ⟨a', c', hv⟩⟩ | ⟨b, o, c', hv, hn, hc, hS, hb, hcell⟩
    · omega
    · omega
    · injection hv with e1 e2 e3
      omega
  refine ⟨_, _, _, bytes_sliced h l.toNat k.toNat c (by omega) (by omega) (by omega) (by omega), rfl, fun w0 kl kh => ?_⟩
  have ht : Try.prog.underlying 31 = some (.slice (Try.prog.elem 31)) := by rw [elemBytes]; exact Try.underlying31
  rw [run_sliceAt_slice _ _ _ _ _ _ ht, run_slice_lh _ _ _ _ _ ht kl kh l k h0 h1 (by omega), elemBytes, sizeU8]
  rfl
/-- A piece from l on. -/
theorem bytes_l {S : Nat → Prop} {w : World} {v : Value} {xs : List UInt8} (h : Bytes S w v xs) (l : Int) (h0 : 0 ≤ l) (h2 : l ≤ xs.length) :
    ∃ a n c, Bytes S w (.slice a n c) (xs.drop l.toNat) ∧ n = xs.length - l.toNat ∧ ∀ w0 kl, (Instr.sliceAt 31 v (some (.int kl l)) none none).run Try.prog w0 = .ok (.slice a n c) w0 := by
  obtain ⟨A, c, rfl⟩ := h.slice
  have hc : xs.length ≤ c := by
    rcases h.2 with ⟨h0, hv | ⟨a', c', hv⟩⟩ | ⟨b, o, c', hv, hn, hc, hS, hb, hcell⟩
    · omega
    · omega
    · injection hv with e1 e2 e3
      omega
  have hs := bytes_sliced h l.toNat xs.length c (by omega) (by omega) (by omega) (by omega)
  rw [List.take_length] at hs
  refine ⟨_, _, _, hs, rfl, fun w0 kl => ?_⟩
  have ht : Try.prog.underlying 31 = some (.slice (Try.prog.elem 31)) := by rw [elemBytes]; exact Try.underlying31
  rw [run_sliceAt_slice _ _ _ _ _ _ ht, run_slice_l _ _ _ _ _ ht kl l h0 h2, elemBytes, sizeU8]
  rfl
end Go.Proofs.Ytoaoldhajpbenaa
