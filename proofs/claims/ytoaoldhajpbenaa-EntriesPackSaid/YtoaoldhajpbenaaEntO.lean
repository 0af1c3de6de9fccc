/- A slice of entries that came in, read: its entries as a list. No statement is proved here. -/
import Derived.Test.YtoaoldhajpbenaaEntC
import Derived.Deep.Slices
import Derived.Deep.Strs
namespace Go.Proofs.Ytoaoldhajpbenaa
open Go.ChangeShapes Go.WideShapes

section
variable {H : Type} {enc : TypeId × Value → H} {W : World} {base : Nat} {spare : Nat → Bool} {held : Bool}

theorem in64_wf {n : Int} (h : (Lit.int .i64 n).wf = true) : in64 n := by
  simp [Lit.wf, IntKind.min, IntKind.max, IntKind.bits, IntKind.signed] at h
  exact ⟨by omega, by omega⟩

theorem bytes_of_ints : ∀ (zs : List Int), (∀ n ∈ zs, (Lit.int .u8 n).wf = true) → byteCells (zs.map fun n => UInt8.ofNat n.toNat) = zs.map (Value.int .u8)
  | [], _ => rfl
  | z :: zs, h => by
    have h0 := h z (by simp)
    simp [Lit.wf, IntKind.min, IntKind.max, IntKind.bits, IntKind.signed] at h0
    have ih := bytes_of_ints zs (fun n hn => h n (by simp [hn]))
    simp only [List.map_cons, byteCells] at ih ⊢
    have e : ((UInt8.ofNat z.toNat).toNat : Int) = z := by
      show ((z.toNat % 256 : Nat) : Int) = z
      omega
    rw [e, ih]

theorem open_bytes {fuel : Nat} {v : Value} {x : DataW H × List MemPlace} (h : DataW.trod enc Try.prog W base spare held fuel 31 [v] = some x) : ∃ xs : List UInt8, Bytes (fun _ => True) W v xs := by
  rcases open_ints Try.underlying31 Try.underlying5 (by kernel_rfl) h with ⟨hcs, -⟩ | ⟨a, len, cap, zs, hcs, hb, hl, hm, hz, -, hcell, hw⟩
  · simp at hcs
    subst hcs
    exact ⟨[], rfl, .inl ⟨rfl, .inl rfl⟩⟩
  · simp at hcs
    subst hcs
    have hle : len ≤ zs.length := by rw [hz]; split <;> omega
    have hb' := bytes_of_ints (zs.take len) (fun n hn => hw n (List.mem_of_mem_take hn))
    refine ⟨(zs.take len).map fun n => UInt8.ofNat n.toNat, ?_⟩
    have e : ((zs.take len).map fun n => UInt8.ofNat n.toNat).length = len := by simp; omega
    unfold Bytes
    rw [e, hb']
    refine ⟨by simp; omega, ?_⟩
    rcases Nat.eq_zero_or_pos len with rfl | hp
    · exact .inl ⟨rfl, .inr ⟨a, cap, rfl⟩⟩
    · obtain ⟨b, off, spot⟩ := a
      have hc0 := hcell 0 (by omega)
      have hspot : spot = none := by simpa [Addr.add] using World.cell?_spot hc0
      subst hspot
      refine .inr ⟨b, off, cap, rfl, hl, hm, trivial, ?_, fun i u hu => ?_⟩
      · have := block_lt hc0
        rw [add_plain] at this
        exact this
      · have hi := (List.getElem?_eq_some_iff.1 hu).1
        simp at hi
        have := hcell i (by omega)
        rw [add_plain] at this
        rw [this]
        simp only [List.getElem?_map, List.getElem?_take] at hu
        rw [if_pos (by omega), List.getElem?_eq_getElem (by omega)] at hu
        simp at hu
        rw [← hu]
        simp [List.getD, List.getElem?_eq_getElem (show i < zs.length by omega)]

theorem open_entry {fuel : Nat} {cs : List Value} {x : DataW H × List MemPlace} (h : DataW.trod enc Try.prog W base spare held fuel 33 cs = some x) :
    ∃ (e : Ent) (v : Value), cs = [.int .i64 e.kind, .int .i64 e.term, v] ∧ in64 e.kind ∧ in64 e.term ∧ Bytes (fun _ => True) W v e.cmd := by
  obtain ⟨y0, y1, y2, n, -, hl, h0, h1, h2⟩ := Go.Deep.trod_struct3 Try.underlying33 h
  have hc : Try.prog.cellsOf 33 = 3 := by kernel_rfl
  have c0 : Try.prog.cellsOf 3 = 1 := by kernel_rfl
  have c1 : Try.prog.cellsOf 2 = 1 := by kernel_rfl
  have c2 : Try.prog.cellsOf 31 = 1 := by kernel_rfl
  rw [hc] at hl
  simp only [c0, c1, c2] at h0 h1 h2
  match cs, hl with
  | [a, b, v], _ =>
    obtain ⟨k, ek, -, hk⟩ := DataW.trod_int Try.underlying3 h0
    obtain ⟨t, et, -, ht⟩ := DataW.trod_int Try.underlying2 h1
    obtain ⟨xs, hx⟩ := open_bytes (v := v) h2
    simp at ek et
    subst ek et
    exact ⟨⟨k, t, xs⟩, v, rfl, in64_wf hk, in64_wf ht, hx⟩

theorem entCells_range {S : Nat → Prop} (f : Nat → Ent) (g : Nat → Value) : ∀ n, (∀ i, i < n → in64 (f i).kind ∧ in64 (f i).term ∧ Bytes S W (g i) (f i).cmd) →
    EntCells S W ((List.range n).map f) ((List.range n).flatMap fun i => [.int .i64 (f i).kind, .int .i64 (f i).term, g i])
  | 0, _ => rfl
  | n + 1, h => by
    rw [List.range_succ, List.map_append, List.flatMap_append]
    refine EntCells.append (entCells_range f g n (fun i hi => h i (by omega))) ?_
    obtain ⟨h1, h2, h3⟩ := h n (by omega)
    exact ⟨g n, [], rfl, h1, h2, h3, rfl⟩

theorem range_len3 (f : Nat → Ent) (g : Nat → Value) (n : Nat) : ((List.range n).flatMap fun i => [Value.int .i64 (f i).kind, .int .i64 (f i).term, g i]).length = n * 3 := by
  induction n with
  | zero => rfl
  | succ n ih => rw [List.range_succ, List.flatMap_append, List.length_append, ih]; simp; omega

theorem cells_range (f : Nat → Ent) (g : Nat → Value) (b o : Nat) : ∀ n, (∀ i, i < n → W.cell? ⟨b, o + i * 3, none⟩ = some (.int .i64 (f i).kind) ∧ W.cell? ⟨b, o + i * 3 + 1, none⟩ = some (.int .i64 (f i).term) ∧ W.cell? ⟨b, o + i * 3 + 2, none⟩ = some (g i)) →
    ∀ j u, ((List.range n).flatMap fun i => [Value.int .i64 (f i).kind, .int .i64 (f i).term, g i])[j]? = some u → W.cell? ⟨b, o + j, none⟩ = some u
  | 0, _, j, u, hu => by simp at hu
  | n + 1, h, j, u, hu => by
    rw [List.range_succ, List.flatMap_append] at hu
    by_cases hj : j < n * 3
    · rw [List.getElem?_append_left (by rw [range_len3]; exact hj)] at hu
      exact cells_range f g b o n (fun i hi => h i (by omega)) j u hu
    · rw [List.getElem?_append_right (by rw [range_len3]; omega), range_len3] at hu
      obtain ⟨h0, h1, h2⟩ := h n (by omega)
      obtain ⟨r, rfl⟩ : ∃ r, j = n * 3 + r := ⟨j - n * 3, by omega⟩
      rw [Nat.add_sub_cancel_left] at hu
      match r, hu with
      | 0, hu => simp at hu; rw [← hu]; exact h0
      | 1, hu => simp at hu; rw [← hu]; exact h1
      | 2, hu => simp at hu; rw [← hu]; exact h2
      | r + 3, hu => simp at hu

/-- Entries that came in. -/
theorem open_entries {fuel : Nat} {a : Option Addr} {len cap : Nat} {x : DataW H × List MemPlace} (h : DataW.trod enc Try.prog W base spare held fuel 22 [.slice a len cap] = some x) :
    (∃ es : List Ent, es.length = len ∧ Ents (fun _ => True) W (.slice a len cap) es) ∧ (len = 0 ∨ ∃ D S, x.1 = .slice D S ∧ D.length = len) := by
  have hc : Try.prog.cellsOf 33 = 3 := by kernel_rfl
  rcases Go.Deep.open_slice Try.underlying22 h with ⟨hcs, -⟩ | ⟨ad, l', c', m, n, D, Pl, hcs, hb, hl, hm, hmm, hx, hel⟩
  · simp at hcs
    obtain ⟨rfl, rfl, rfl⟩ := hcs
    exact ⟨⟨[], rfl, [], ⟨rfl, .inl ⟨rfl, .inl rfl⟩⟩, rfl⟩, .inl rfl⟩
  · simp at hcs
    obtain ⟨rfl, rfl, rfl⟩ := hcs
    refine ⟨?_, .inr ⟨_, _, by rw [hx], by simp⟩⟩
    have hlm : len ≤ m := by rw [hmm]; split <;> omega
    rcases Nat.eq_zero_or_pos len with rfl | hp
    · exact ⟨[], rfl, [], ⟨rfl, .inl ⟨rfl, .inr ⟨ad, cap, rfl⟩⟩⟩, rfl⟩
    · rw [hc] at hel
      have hch : ∀ i, i < len → ∃ p : Ent × Value, W.cell? (ad.add (i * 3)) = some (.int .i64 p.1.kind) ∧ W.cell? ((ad.add (i * 3)).add 1) = some (.int .i64 p.1.term) ∧ W.cell? ((ad.add (i * 3)).add 2) = some p.2 ∧
          in64 p.1.kind ∧ in64 p.1.term ∧ Bytes (fun _ => True) W p.2 p.1.cmd := by
        intro i hi
        obtain ⟨cs', h1, h2⟩ := hel i (by omega)
        obtain ⟨e, v, rfl, he1, he2, he3⟩ := open_entry h2
        obtain ⟨-, -, hce⟩ := World.cells?_some h1
        have z0 := hce 0 (by omega)
        have z1 := hce 1 (by omega)
        have z2 := hce 2 (by omega)
        simp only [List.getElem?_cons_zero, List.getElem?_cons_succ] at z0 z1 z2
        refine ⟨(e, v), ?_, z1, z2, he1, he2, he3⟩
        have e0 : (ad.add (i * 3)).add 0 = ad.add (i * 3) := by rw [Go.Deep.add_add]; rfl
        rwa [e0] at z0
      haveI : Inhabited (Ent × Value) := ⟨(⟨0, 0, []⟩, .nilIface)⟩
      obtain ⟨f, hf⟩ := Go.Deep.choose_lt hch
      obtain ⟨b, off, spot⟩ := ad
      have hc0 := (hf 0 hp).1
      have hspot : spot = none := by simpa [Addr.add] using World.cell?_spot hc0
      subst hspot
      have hcell : ∀ i, i < len → W.cell? ⟨b, off + i * 3, none⟩ = some (.int .i64 (f i).1.kind) ∧ W.cell? ⟨b, off + i * 3 + 1, none⟩ = some (.int .i64 (f i).1.term) ∧ W.cell? ⟨b, off + i * 3 + 2, none⟩ = some (f i).2 := by
        intro i hi
        obtain ⟨z0, z1, z2, -⟩ := hf i hi
        simp only [add_plain] at z0 z1 z2
        exact ⟨z0, z1, z2⟩
      refine ⟨(List.range len).map fun i => (f i).1, by simp, (List.range len).flatMap fun i => [.int .i64 (f i).1.kind, .int .i64 (f i).1.term, (f i).2], ?_, ?_⟩
      · refine ⟨by rw [range_len3 (fun i => (f i).1) (fun i => (f i).2)]; simp, .inr ⟨b, off, cap, by simp, by simpa using hl, hm, trivial, ?_, ?_⟩⟩
        · exact block_lt (hcell 0 hp).1
        · exact cells_range (fun i => (f i).1) (fun i => (f i).2) b off len hcell
      · exact entCells_range (fun i => (f i).1) (fun i => (f i).2) len fun i hi => ⟨(hf i hi).2.2.2.1, (hf i hi).2.2.2.2.1, (hf i hi).2.2.2.2.2⟩
end
end Go.Proofs.Ytoaoldhajpbenaa
