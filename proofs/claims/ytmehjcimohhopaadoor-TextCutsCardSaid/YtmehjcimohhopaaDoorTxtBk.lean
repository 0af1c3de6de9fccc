/- Pairs that came in, read, with a bound on their bulk. No statement is proved here. -/
import Derived.Test.YtmehjcimohhopaaDoorRows
import Derived.Test.YtmehjcimohhopaaDoorTxtN
import Derived.Deep.Slices
import Derived.Deep.Strs
import Derived.ChangeSame
import Derived.ChangeShapes
import Derived.WideShapes
namespace Go.Proofs.YtmehjcimohhopaaDoor
open Go.ChangeShapes Go.WideShapes

theorem bulk_one {H : Type} (d : DataW H) : 1 ≤ Rows.uptoBulk d := by
  cases d with
  | lit l => cases l <;> simp [Rows.uptoBulk]
  | nil => simp [Rows.uptoBulk]
  | ptr d => simp [Rows.uptoBulk]
  | slice elems spare => simp [Rows.uptoBulk]
  | agg parts => simp [Rows.uptoBulk]
  | iface t d => simp [Rows.uptoBulk]
  | map entries => simp [Rows.uptoBulk]
  | held h => simp [Rows.uptoBulk]
theorem bulk_part {H : Type} {d : DataW H} {l : List (DataW H)} (h : d ∈ l) : Rows.uptoBulk d ≤ Rows.uptoBulkAll l := by
  induction l with
  | nil => cases h
  | cons x r ih =>
    simp only [Rows.uptoBulkAll]
    cases List.mem_cons.1 h with
    | inl e => subst e; omega
    | inr e => have := ih e; omega
theorem bulk_length {H : Type} (l : List (DataW H)) : l.length ≤ Rows.uptoBulkAll l := by
  induction l with
  | nil => simp [Rows.uptoBulkAll]
  | cons x r ih => have := bulk_one x; simp only [Rows.uptoBulkAll, List.length_cons]; omega
theorem bulk_slice {H : Type} (elems spare : List (DataW H)) : Rows.uptoBulkAll elems + 1 ≤ Rows.uptoBulk (.slice elems spare) := by
  simp only [Rows.uptoBulk]
  omega
theorem bulk_bound {H : Type} {l : List (DataW H)} (hk : Rows.uptoSmall H l = true) : Rows.uptoBulkAll l ≤ 1048576 := of_decide_eq_true hk

theorem range_len2 (f : Nat → Pr) (n : Nat) : (pairCells ((List.range n).map f)).length = n * 2 := by
  rw [pairCells_length]
  simp
theorem cells_range2 {W : World} (f : Nat → Pr) (b o : Nat) : ∀ n, (∀ i, i < n → W.cell? ⟨b, o + i * 2, none⟩ = some (.string (f i).1) ∧ W.cell? ⟨b, o + i * 2 + 1, none⟩ = some (.string (f i).2)) →
    ∀ j u, (pairCells ((List.range n).map f))[j]? = some u → W.cell? ⟨b, o + j, none⟩ = some u
  | 0, _, j, u, hu => by simp [pairCells] at hu
  | n + 1, h, j, u, hu => by
    rw [List.range_succ, List.map_append, pairCells_append] at hu
    by_cases hj : j < n * 2
    · rw [List.getElem?_append_left (by rw [range_len2]; exact hj)] at hu
      exact cells_range2 f b o n (fun i hi => h i (by omega)) j u hu
    · rw [List.getElem?_append_right (by rw [range_len2]; omega), range_len2] at hu
      obtain ⟨h0, h1⟩ := h n (by omega)
      obtain ⟨r, rfl⟩ : ∃ r, j = n * 2 + r := ⟨j - n * 2, by omega⟩
      rw [Nat.add_sub_cancel_left] at hu
      match r, hu with
      | 0, hu => simp [pairCells] at hu; rw [← hu]; exact h0
      | 1, hu => simp [pairCells] at hu; rw [← hu]; exact h1
      | r + 2, hu => simp [pairCells] at hu

section
variable {H : Type} {enc : TypeId × Value → H} {W : World} {base : Nat} {spare : Nat → Bool} {held : Bool}
theorem open_pair {fuel : Nat} {cs : List Value} {x : DataW H × List MemPlace} (h : DataW.trod enc Tryd.prog W base spare held fuel 47 cs = some x) :
    ∃ p : Pr, cs = [.string p.1, .string p.2] ∧ p.1.size ≤ Rows.uptoBulk x.1 ∧ p.2.size ≤ Rows.uptoBulk x.1 := by
  obtain ⟨y0, y1, n, hx, hl, h0, h1⟩ := trod_struct2 Tryd.underlying47 h
  have hc : Tryd.prog.cellsOf 47 = 2 := by kernel_rfl
  have c0 : Tryd.prog.cellsOf 9 = 1 := by kernel_rfl
  rw [hc] at hl
  simp only [c0] at h0 h1
  match cs, hl with
  | [a, b], _ =>
    obtain ⟨k, ek, xk, -⟩ := DataW.trod_string Tryd.underlying9 h0
    obtain ⟨v, ev, xv, -⟩ := DataW.trod_string Tryd.underlying9 h1
    simp at ek ev
    subst ek ev
    refine ⟨(k, v), rfl, ?_, ?_⟩
    · rw [hx, xk, xv]; simp only [Rows.uptoBulk, Rows.uptoBulkAll, Array.length_toList, ByteArray.size]; omega
    · rw [hx, xk, xv]; simp only [Rows.uptoBulk, Rows.uptoBulkAll, Array.length_toList, ByteArray.size]; omega

/-- Pairs that came in. -/
theorem open_pairs {fuel N : Nat} {a : Option Addr} {len cap : Nat} {x : DataW H × List MemPlace} (h : DataW.trod enc Tryd.prog W base spare held fuel 30 [.slice a len cap] = some x) (hN : Rows.uptoBulk x.1 ≤ N) :
    ∃ l : List Pr, l.length = len ∧ PairsAt (fun _ => True) W (.slice a len cap) l ∧ l.length ≤ N ∧ ∀ p ∈ l, p.1.size ≤ N ∧ p.2.size ≤ N := by
  have hc : Tryd.prog.cellsOf 47 = 2 := by kernel_rfl
  rcases Go.Deep.open_slice Tryd.underlying30 h with ⟨hcs, -⟩ | ⟨ad, l', c', m, n, D, Pl, hcs, hb, hl, hm, hmm, hx, hel⟩
  · simp at hcs
    obtain ⟨rfl, rfl, rfl⟩ := hcs
    exact ⟨[], rfl, ⟨rfl, .inl ⟨rfl, .inl rfl⟩⟩, Nat.zero_le _, fun p hp => by cases hp⟩
  · simp at hcs
    obtain ⟨rfl, rfl, rfl⟩ := hcs
    have hlm : len ≤ m := by rw [hmm]; split <;> omega
    have hN' : Rows.uptoBulk (.slice ((List.range len).map D) ((List.range (m - len)).map fun j => D (len + j))) ≤ N := by rw [hx] at hN; exact hN
    have hle := bulk_slice ((List.range len).map D) ((List.range (m - len)).map fun j => D (len + j))
    have hlN : len ≤ N := by
      have h1 := bulk_length ((List.range len).map D)
      simp only [List.length_map, List.length_range] at h1
      omega
    have hDN : ∀ i, i < len → Rows.uptoBulk (D i) ≤ N := fun i hi => by
      have h1 : Rows.uptoBulk (D i) ≤ Rows.uptoBulkAll ((List.range len).map D) := bulk_part (List.mem_map.2 ⟨i, List.mem_range.2 hi, rfl⟩)
      omega
    rcases Nat.eq_zero_or_pos len with rfl | hp
    · exact ⟨[], rfl, ⟨rfl, .inl ⟨rfl, .inr ⟨ad, cap, rfl⟩⟩⟩, Nat.zero_le _, fun p hp => by cases hp⟩
    · rw [hc] at hel
      have hch : ∀ i, i < len → ∃ p : Pr, W.cell? (ad.add (i * 2)) = some (.string p.1) ∧ W.cell? ((ad.add (i * 2)).add 1) = some (.string p.2) ∧ p.1.size ≤ N ∧ p.2.size ≤ N := by
        intro i hi
        obtain ⟨cs', h1, h2⟩ := hel i (by omega)
        obtain ⟨p, rfl, b1, b2⟩ := open_pair h2
        obtain ⟨-, -, hce⟩ := World.cells?_some h1
        have z0 := hce 0 (by omega)
        have z1 := hce 1 (by omega)
        simp only [List.getElem?_cons_zero, List.getElem?_cons_succ] at z0 z1
        refine ⟨p, ?_, z1, Nat.le_trans b1 (hDN i hi), Nat.le_trans b2 (hDN i hi)⟩
        have e0 : (ad.add (i * 2)).add 0 = ad.add (i * 2) := by rw [Go.Deep.add_add]; rfl
        rwa [e0] at z0
      haveI : Inhabited Pr := ⟨(⟨#[]⟩, ⟨#[]⟩)⟩
      obtain ⟨f, hf⟩ := Go.Deep.choose_lt hch
      obtain ⟨b, off, spot⟩ := ad
      have hc0 := (hf 0 hp).1
      have hspot : spot = none := by simpa [Addr.add] using World.cell?_spot hc0
      subst hspot
      have hcell : ∀ i, i < len → W.cell? ⟨b, off + i * 2, none⟩ = some (.string (f i).1) ∧ W.cell? ⟨b, off + i * 2 + 1, none⟩ = some (.string (f i).2) := by
        intro i hi
        obtain ⟨z0, z1, -⟩ := hf i hi
        simp only [add_plain] at z0 z1
        exact ⟨z0, z1⟩
      refine ⟨(List.range len).map f, by simp, ?_, by simpa using hlN, ?_⟩
      · refine ⟨by rw [range_len2]; simp, .inr ⟨b, off, cap, by simp, by simpa using hl, hm, trivial, ?_, ?_⟩⟩
        · exact block_lt (hcell 0 hp).1
        · exact cells_range2 f b off len hcell
      · intro p hp
        obtain ⟨i, hi, rfl⟩ := List.mem_map.1 hp
        exact (hf i (List.mem_range.1 hi)).2.2
end
end Go.Proofs.YtmehjcimohhopaaDoor
