/- Texts that belong together, in one file: EntO, OpnA, OpnB. No statement is proved here. -/
import Derived.Test.YtahagecdebadfaaGreatQEntM
import Derived.Deep.Slices
import Derived.Deep.Strs
import Derived.WideShapes
import Derived.Test.YtahagecdebadfaaGreatQRiA
import Derived.SizedLaws
namespace Go.Proofs.YtahagecdebadfaaGreat
open Go.ChangeShapes Go.WideShapes

section
variable {H : Type} {enc : TypeId × Value → H} {W : World} {base : Nat} {spare : Nat → Bool} {held : Bool}

theorem in64_wf {n : Int} (h : (Lit.int .i64 n).wf = true) : in64 n := by
  simp [Lit.wf, IntKind.min, IntKind.max, IntKind.bits, IntKind.signed] at h
  exact ⟨by omega, by omega⟩

theorem bytes_of_ints : ∀ (zs : List Int), (∀ n ∈ zs, (Lit.int .u8 n).wf = true) → byteCells (zs.map fun n => UInt8.ofNat n.toNat) = zs.map (Value.int .u8)
  | [], _ => rfl
  | z :: zs, h => by
    have h0 := h z (by simp)
    simp [Lit.wf, IntKind.min, IntKind.max, IntKind.bits, IntKind.signed] at h0
    have ih := bytes_of_ints zs (fun n hn => h n (by simp [hn]))
    simp only [List.map_cons, byteCells] at ih ⊢
    have e : ((UInt8.ofNat z.toNat).toNat : Int) = z := by
      show ((z.toNat % 256 : Nat) : Int) = z
      omega
    rw [e, ih]

theorem open_bytes {fuel : Nat} {v : Value} {x : DataW H × List MemPlace} (h : DataW.trod enc Tryz.prog W base spare held fuel 40 [v] = some x) : ∃ xs : List UInt8, Bytes (fun _ => True) W v xs := by
  rcases open_ints Tryz.underlying40 Tryz.underlying5 (by kernel_rfl) h with ⟨hcs, -⟩ | ⟨a, len, cap, zs, hcs, hb, hl, hm, hz, -, hcell, hw⟩
  · simp at hcs
    subst hcs
    exact ⟨[], rfl, .inl ⟨rfl, .inl rfl⟩⟩
  · simp at hcs
    subst hcs
    have hle : len ≤ zs.length := by rw [hz]; split <;> omega
    have hb' := bytes_of_ints (zs.take len) (fun n hn => hw n (List.mem_of_mem_take hn))
    refine ⟨(zs.take len).map fun n => UInt8.ofNat n.toNat, ?_⟩
    have e : ((zs.take len).map fun n => UInt8.ofNat n.toNat).length = len := by simp; omega
    unfold Bytes
    rw [e, hb']
    refine ⟨by simp; omega, ?_⟩
    rcases Nat.eq_zero_or_pos len with rfl | hp
    · exact .inl ⟨rfl, .inr ⟨a, cap, rfl⟩⟩
    · obtain ⟨b, off, spot⟩ := a
      have hc0 := hcell 0 (by omega)
      have hspot : spot = none := by simpa [Addr.add] using World.cell?_spot hc0
      subst hspot
      refine .inr ⟨b, off, cap, rfl, hl, hm, trivial, ?_, fun i u hu => ?_⟩
      · have := block_lt hc0
        rw [add_plain] at this
        exact this
      · have hi := (List.getElem?_eq_some_iff.1 hu).1
        simp at hi
        have := hcell i (by omega)
        rw [add_plain] at this
        rw [this]
        simp only [List.getElem?_map, List.getElem?_take] at hu
        rw [if_pos (by omega), List.getElem?_eq_getElem (by omega)] at hu
        simp at hu
        rw [← hu]
        simp [List.getD, List.getElem?_eq_getElem (show i < zs.length by omega)]

theorem open_entry {fuel : Nat} {cs : List Value} {x : DataW H × List MemPlace} (h : DataW.trod enc Tryz.prog W base spare held fuel 113 cs = some x) :
    ∃ (e : Ent) (v : Value), cs = [.int .i64 e.kind, .int .i64 e.term, v] ∧ in64 e.kind ∧ in64 e.term ∧ Bytes (fun _ => True) W v e.cmd := by
  obtain ⟨y0, y1, y2, n, -, hl, h0, h1, h2⟩ := Go.Deep.trod_struct3 Tryz.underlying113 h
  have hc : Tryz.prog.cellsOf 113 = 3 := by kernel_rfl
  have c0 : Tryz.prog.cellsOf 3 = 1 := by kernel_rfl
  have c1 : Tryz.prog.cellsOf 2 = 1 := by kernel_rfl
  have c2 : Tryz.prog.cellsOf 40 = 1 := by kernel_rfl
  rw [hc] at hl
  simp only [c0, c1, c2] at h0 h1 h2
  match cs, hl with
  | [a, b, v], _ =>
    obtain ⟨k, ek, -, hk⟩ := DataW.trod_int Tryz.underlying3 h0
    obtain ⟨t, et, -, ht⟩ := DataW.trod_int Tryz.underlying2 h1
    obtain ⟨xs, hx⟩ := open_bytes (v := v) h2
    simp at ek et
    subst ek et
    exact ⟨⟨k, t, xs⟩, v, rfl, in64_wf hk, in64_wf ht, hx⟩

theorem entCells_range {S : Nat → Prop} (f : Nat → Ent) (g : Nat → Value) : ∀ n, (∀ i, i < n → in64 (f i).kind ∧ in64 (f i).term ∧ Bytes S W (g i) (f i).cmd) →
    EntCells S W ((List.range n).map f) ((List.range n).flatMap fun i => [.int .i64 (f i).kind, .int .i64 (f i).term, g i])
  | 0, _ => rfl
  | n + 1, h => by
    rw [List.range_succ, List.map_append, List.flatMap_append]
    refine EntCells.append (entCells_range f g n (fun i hi => h i (by omega))) ?_
    obtain ⟨h1, h2, h3⟩ := h n (by omega)
    exact ⟨g n, [], rfl, h1, h2, h3, rfl⟩

theorem range_len3 (f : Nat → Ent) (g : Nat → Value) (n : Nat) : ((List.range n).flatMap fun i => [Value.int .i64 (f i).kind, .int .i64 (f i).term, g i]).length = n * 3 := by
  induction n with
  | zero => rfl
  | succ n ih => rw [List.range_succ, List.flatMap_append, List.length_append, ih]; simp; omega

theorem cells_range (f : Nat → Ent) (g : Nat → Value) (b o : Nat) : ∀ n, (∀ i, i < n → W.cell? ⟨b, o + i * 3, none⟩ = some (.int .i64 (f i).kind) ∧ W.cell? ⟨b, o + i * 3 + 1, none⟩ = some (.int .i64 (f i).term) ∧ W.cell? ⟨b, o + i * 3 + 2, none⟩ = some (g i)) →
    ∀ j u, ((List.range n).flatMap fun i => [Value.int .i64 (f i).kind, .int .i64 (f i).term, g i])[j]? = some u → W.cell? ⟨b, o + j, none⟩ = some u
  | 0, _, j, u, hu => by simp at hu
  | n + 1, h, j, u, hu => by
    rw [List.range_succ, List.flatMap_append] at hu
    by_cases hj : j < n * 3
    · rw [List.getElem?_append_left (by rw [range_len3]; exact hj)] at hu
      exact cells_range f g b o n (fun i hi => h i (by omega)) j u hu
    · rw [List.getElem?_append_right (by rw [range_len3]; omega), range_len3] at hu
      obtain ⟨h0, h1, h2⟩ := h n (by omega)
      obtain ⟨r, rfl⟩ : ∃ r, j = n * 3 + r := ⟨j - n * 3, by omega⟩
      rw [Nat.add_sub_cancel_left] at hu
      match r, hu with
      | 0, hu => simp at hu; rw [← hu]; exact h0
      | 1, hu => simp at hu; rw [← hu]; exact h1
      | 2, hu => simp at hu; rw [← hu]; exact h2
      | r + 3, hu => simp at hu

/-- Entries that came in. -/
theorem open_entries {fuel : Nat} {a : Option Addr} {len cap : Nat} {x : DataW H × List MemPlace} (h : DataW.trod enc Tryz.prog W base spare held fuel 22 [.slice a len cap] = some x) :
    (∃ es : List Ent, es.length = len ∧ Ents (fun _ => True) W (.slice a len cap) es) ∧ (len = 0 ∨ ∃ D S, x.1 = .slice D S ∧ D.length = len) := by
  have hc : Tryz.prog.cellsOf 113 = 3 := by kernel_rfl
  rcases Go.Deep.open_slice Tryz.underlying22 h with ⟨hcs, -⟩ | ⟨ad, l', c', m, n, D, Pl, hcs, hb, hl, hm, hmm, hx, hel⟩
  · simp at hcs
    obtain ⟨rfl, rfl, rfl⟩ := hcs
    exact ⟨⟨[], rfl, [], ⟨rfl, .inl ⟨rfl, .inl rfl⟩⟩, rfl⟩, .inl rfl⟩
  · simp at hcs
    obtain ⟨rfl, rfl, rfl⟩ := hcs
    refine ⟨?_, .inr ⟨_, _, by rw [hx], by simp⟩⟩
    have hlm : len ≤ m := by rw [hmm]; split <;> omega
    rcases Nat.eq_zero_or_pos len with rfl | hp
    · exact ⟨[], rfl, [], ⟨rfl, .inl ⟨rfl, .inr ⟨ad, cap, rfl⟩⟩⟩, rfl⟩
    · rw [hc] at hel
      have hch : ∀ i, i < len → ∃ p : Ent × Value, W.cell? (ad.add (i * 3)) = some (.int .i64 p.1.kind) ∧ W.cell? ((ad.add (i * 3)).add 1) = some (.int .i64 p.1.term) ∧ W.cell? ((ad.add (i * 3)).add 2) = some p.2 ∧
          in64 p.1.kind ∧ in64 p.1.term ∧ Bytes (fun _ => True) W p.2 p.1.cmd := by
        intro i hi
        obtain ⟨cs', h1, h2⟩ := hel i (by omega)
        obtain ⟨e, v, rfl, he1, he2, he3⟩ := open_entry h2
        obtain ⟨-, -, hce⟩ := World.cells?_some h1
        have z0 := hce 0 (by omega)
        have z1 := hce 1 (by omega)
        have z2 := hce 2 (by omega)
        simp only [List.getElem?_cons_zero, List.getElem?_cons_succ] at z0 z1 z2
        refine ⟨(e, v), ?_, z1, z2, he1, he2, he3⟩
        have e0 : (ad.add (i * 3)).add 0 = ad.add (i * 3) := by rw [Go.Deep.add_add]; rfl
        rwa [e0] at z0
      haveI : Inhabited (Ent × Value) := ⟨(⟨0, 0, []⟩, .nilIface)⟩
      obtain ⟨f, hf⟩ := Go.Deep.choose_lt hch
      obtain ⟨b, off, spot⟩ := ad
      have hc0 := (hf 0 hp).1
      have hspot : spot = none := by simpa [Addr.add] using World.cell?_spot hc0
      subst hspot
      have hcell : ∀ i, i < len → W.cell? ⟨b, off + i * 3, none⟩ = some (.int .i64 (f i).1.kind) ∧ W.cell? ⟨b, off + i * 3 + 1, none⟩ = some (.int .i64 (f i).1.term) ∧ W.cell? ⟨b, off + i * 3 + 2, none⟩ = some (f i).2 := by
        intro i hi
        obtain ⟨z0, z1, z2, -⟩ := hf i hi
        simp only [add_plain] at z0 z1 z2
        exact ⟨z0, z1, z2⟩
      refine ⟨(List.range len).map fun i => (f i).1, by simp, (List.range len).flatMap fun i => [.int .i64 (f i).1.kind, .int .i64 (f i).1.term, (f i).2], ?_, ?_⟩
      · refine ⟨by rw [range_len3 (fun i => (f i).1) (fun i => (f i).2)]; simp, .inr ⟨b, off, cap, by simp, by simpa using hl, hm, trivial, ?_, ?_⟩⟩
        · exact block_lt (hcell 0 hp).1
        · exact cells_range (fun i => (f i).1) (fun i => (f i).2) b off len hcell
      · exact entCells_range (fun i => (f i).1) (fun i => (f i).2) len fun i hi => ⟨(hf i hi).2.2.2.1, (hf i hi).2.2.2.2.1, (hf i hi).2.2.2.2.2⟩
end
end Go.Proofs.YtahagecdebadfaaGreat

namespace Go.Proofs.YtahagecdebadfaaGreat
open Go.ChangeShapes Go.WideShapes

section
variable {H : Type} {enc : TypeId × Value → H} {W : World} {base : Nat} {spare : Nat → Bool} {held : Bool}
theorem open_bytes_len {fuel : Nat} {a : Option Addr} {len cap : Nat} {x : DataW H × List MemPlace} (h : DataW.trod enc Tryz.prog W base spare held fuel 40 [.slice a len cap] = some x) :
    (∃ xs : List UInt8, xs.length = len ∧ Bytes (fun _ => True) W (.slice a len cap) xs) ∧ (len = 0 ∨ ∃ D S, x.1 = .slice D S ∧ D.length = len) := by
  obtain ⟨xs, hx⟩ := open_bytes h
  have hl : xs.length = len := by obtain ⟨A, c, e⟩ := hx.slice; injection e with _ e; exact e.symm
  refine ⟨⟨xs, hl, hx⟩, ?_⟩
  rcases open_ints Tryz.underlying40 Tryz.underlying5 (by kernel_rfl) h with ⟨hcs, -⟩ | ⟨a', len', cap', zs, hcs, hb, hl', hm, hz, hx', -, -⟩
  · simp at hcs
    exact .inl hcs.2.1
  · simp at hcs
    obtain ⟨rfl, rfl, rfl⟩ := hcs
    right
    refine ⟨_, _, by rw [hx'], ?_⟩
    have hle : len ≤ zs.length := by rw [hz]; split <;> omega
    simp [lits]
    omega
end
end Go.Proofs.YtahagecdebadfaaGreat

namespace Go.Proofs.YtahagecdebadfaaGreat
open Go.ChangeShapes Go.WideShapes

theorem weights_agg {H : Type} {t : TypeId} {fs : Array Field} {ds : List (DataW H)} (ht : Tryz.prog.underlying t = some (.struct fs)) (B : Nat) (hz : ∀ n ∈ (DataW.agg ds).weights Tryz.prog t, n ≤ B) {i : Nat} {f : Field} {d : DataW H} (hf : fs[i]? = some f) (hd : ds[i]? = some d) :
    ∀ n ∈ d.weights Tryz.prog f.type, n ≤ B := by
  intro n hn
  refine hz n ?_
  simp only [DataW.weights, ht]
  exact DataW.weights_mem_each (j := i) (by simp [hf]) hd n hn
theorem weights_all {H : Type} (e : TypeId) : ∀ (l : List (DataW H)) (d : DataW H), d ∈ l → ∀ n ∈ d.weights Tryz.prog e, n ∈ DataW.weightsAll Tryz.prog e l
  | [], d, h, _, _ => by cases h
  | a :: l, d, h, n, hn => by
    simp only [DataW.weightsAll, List.mem_append]
    rcases List.mem_cons.1 h with rfl | h
    · exact .inl hn
    · exact .inr (weights_all e l d h n hn)
theorem weights_slice {H : Type} {t e : TypeId} {D S : List (DataW H)} (ht : Tryz.prog.underlying t = some (.slice e)) (B : Nat) (hz : ∀ n ∈ (DataW.slice D S).weights Tryz.prog t, n ≤ B) :
    D.length * Tryz.prog.bytesOf e ≤ B ∧ ∀ d ∈ D, ∀ n ∈ d.weights Tryz.prog e, n ≤ B := by
  simp only [DataW.weights, ht] at hz
  refine ⟨?_, fun d hd n hn => hz n ?_⟩
  · have h := hz _ (List.mem_cons_self ..)
    exact Nat.le_trans (Nat.mul_le_mul_right _ (by omega)) h
  · exact List.mem_cons_of_mem _ (List.mem_append_left _ (weights_all e D d hd n hn))

theorem u32_wf {n : Int} (h : (Lit.int .u32 n).wf = true) : 0 ≤ n ∧ n < 4294967296 := by
  simp [Lit.wf, IntKind.min, IntKind.max, IntKind.bits, IntKind.signed] at h
  exact ⟨by omega, by omega⟩

section
variable {H : Type} {enc : TypeId × Value → H} {W : World} {base : Nat} {spare : Nat → Bool} {held : Bool}

theorem slice_form {t e : TypeId} {fuel : Nat} {v : Value} {x : DataW H × List MemPlace} (ht : Tryz.prog.underlying t = some (.slice e)) (h : DataW.trod enc Tryz.prog W base spare held fuel t [v] = some x) : ∃ a len cap, v = .slice a len cap := by
  rcases Go.Deep.open_slice ht h with ⟨hcs, -⟩ | ⟨a, len, cap, m, n, D, Pl, hcs, -⟩
  · simp at hcs; exact ⟨_, _, _, hcs⟩
  · simp at hcs; exact ⟨_, _, _, hcs⟩
theorem open_bytes_w {fuel : Nat} {v : Value} {x : DataW H × List MemPlace} (h : DataW.trod enc Tryz.prog W base spare held fuel 40 [v] = some x) (hz : ∀ n ∈ x.1.weights Tryz.prog 40, n ≤ reachBytes) :
    ∃ xs : List UInt8, Bytes (fun _ => True) W v xs ∧ xs.length < 140737488355328 := by
  obtain ⟨a, len, cap, rfl⟩ := slice_form Tryz.underlying40 h
  obtain ⟨⟨xs, hl, hx⟩, hlen⟩ := open_bytes_len h
  refine ⟨xs, hx, ?_⟩
  rcases hlen with h0 | ⟨D, S, he, hD⟩
  · omega
  · rw [he] at hz
    have hw := (weights_slice Tryz.underlying40 _ hz).1
    have h1 : Tryz.prog.bytesOf 5 = 1 := by kernel_rfl
    have hr : reachBytes < 2 ^ 47 := reachBytes_lt
    rw [h1] at hw
    omega
theorem open_entry_w {fuel : Nat} {cs : List Value} {x : DataW H × List MemPlace} (h : DataW.trod enc Tryz.prog W base spare held fuel 113 cs = some x) (hz : ∀ n ∈ x.1.weights Tryz.prog 113, n ≤ reachBytes) :
    ∃ (e : Ent) (v : Value), cs = [.int .i64 e.kind, .int .i64 e.term, v] ∧ in64 e.kind ∧ in64 e.term ∧ Bytes (fun _ => True) W v e.cmd ∧ e.cmd.length < 140737488355328 := by
  obtain ⟨y0, y1, y2, n, rfl, hl, h0, h1, h2⟩ := Go.Deep.trod_struct3 Tryz.underlying113 h
  have hz2 := weights_agg Tryz.underlying113 _ hz (i := 2) rfl rfl
  have hc : Tryz.prog.cellsOf 113 = 3 := by kernel_rfl
  have c0 : Tryz.prog.cellsOf 3 = 1 := by kernel_rfl
  have c1 : Tryz.prog.cellsOf 2 = 1 := by kernel_rfl
  have c2 : Tryz.prog.cellsOf 40 = 1 := by kernel_rfl
  rw [hc] at hl
  simp only [c0, c1, c2] at h0 h1 h2
  match cs, hl with
  | [a, b, v], _ =>
    obtain ⟨k, ek, -, hk⟩ := DataW.trod_int Tryz.underlying3 h0
    obtain ⟨t, et, -, ht⟩ := DataW.trod_int Tryz.underlying2 h1
    obtain ⟨xs, hx, hxl⟩ := open_bytes_w (v := v) h2 hz2
    simp at ek et
    subst ek et
    exact ⟨⟨k, t, xs⟩, v, rfl, in64_wf hk, in64_wf ht, hx, hxl⟩
theorem open_entries_w {fuel : Nat} {v : Value} {x : DataW H × List MemPlace} (h : DataW.trod enc Tryz.prog W base spare held fuel 22 [v] = some x) (hz : ∀ n ∈ x.1.weights Tryz.prog 22, n ≤ reachBytes) :
    ∃ es : List Ent, Ents (fun _ => True) W v es ∧ (∀ e ∈ es, e.cmd.length < 140737488355328) ∧ es.length < 140737488355328 := by
  have hc : Tryz.prog.cellsOf 113 = 3 := by kernel_rfl
  rcases Go.Deep.open_slice Tryz.underlying22 h with ⟨hcs, -⟩ | ⟨ad, len, cap, m, n, D, Pl, hcs, hb, hl, hm, hmm, rfl, hel⟩
  · simp at hcs
    subst hcs
    exact ⟨[], ⟨[], ⟨rfl, .inl ⟨rfl, .inl rfl⟩⟩, rfl⟩, (fun e he => by cases he), by decide⟩
  · simp at hcs
    subst hcs
    obtain ⟨hzl, hze⟩ := weights_slice Tryz.underlying22 _ hz
    have h40 : Tryz.prog.bytesOf 113 = 40 := by kernel_rfl
    have hr : reachBytes < 2 ^ 47 := reachBytes_lt
    rw [h40, List.length_map, List.length_range] at hzl
    have hlm : len ≤ m := by rw [hmm]; split <;> omega
    rcases Nat.eq_zero_or_pos len with rfl | hp
    · exact ⟨[], ⟨[], ⟨rfl, .inl ⟨rfl, .inr ⟨ad, cap, rfl⟩⟩⟩, rfl⟩, (fun e he => by cases he), by decide⟩
    · rw [hc] at hel
      have hch : ∀ i, i < len → ∃ p : Ent × Value, (W.cell? (ad.add (i * 3)) = some (.int .i64 p.1.kind) ∧ W.cell? ((ad.add (i * 3)).add 1) = some (.int .i64 p.1.term) ∧ W.cell? ((ad.add (i * 3)).add 2) = some p.2 ∧
          in64 p.1.kind ∧ in64 p.1.term ∧ Bytes (fun _ => True) W p.2 p.1.cmd) ∧ p.1.cmd.length < 140737488355328 := by
        intro i hi
        obtain ⟨cs', h1, h2⟩ := hel i (by omega)
        obtain ⟨e, v, rfl, he1, he2, he3, he4⟩ := open_entry_w h2 (hze (D i) (List.mem_map.2 ⟨i, List.mem_range.2 hi, rfl⟩))
        obtain ⟨-, -, hce⟩ := World.cells?_some h1
        have z0 := hce 0 (by omega)
        have z1 := hce 1 (by omega)
        have z2 := hce 2 (by omega)
        simp only [List.getElem?_cons_zero, List.getElem?_cons_succ] at z0 z1 z2
        refine ⟨(e, v), ⟨?_, z1, z2, he1, he2, he3⟩, he4⟩
        have e0 : (ad.add (i * 3)).add 0 = ad.add (i * 3) := by rw [Go.Deep.add_add]; rfl
        rwa [e0] at z0
      haveI : Inhabited (Ent × Value) := ⟨(⟨0, 0, []⟩, .nilIface)⟩
      obtain ⟨f, hf⟩ := Go.Deep.choose_lt hch
      obtain ⟨b, off, spot⟩ := ad
      have hc0 := (hf 0 hp).1.1
      have hspot : spot = none := by simpa [Addr.add] using World.cell?_spot hc0
      subst hspot
      have hcell : ∀ i, i < len → W.cell? ⟨b, off + i * 3, none⟩ = some (.int .i64 (f i).1.kind) ∧ W.cell? ⟨b, off + i * 3 + 1, none⟩ = some (.int .i64 (f i).1.term) ∧ W.cell? ⟨b, off + i * 3 + 2, none⟩ = some (f i).2 := by
        intro i hi
        obtain ⟨⟨z0, z1, z2, -⟩, -⟩ := hf i hi
        simp only [add_plain] at z0 z1 z2
        exact ⟨z0, z1, z2⟩
      refine ⟨(List.range len).map fun i => (f i).1, ⟨(List.range len).flatMap fun i => [.int .i64 (f i).1.kind, .int .i64 (f i).1.term, (f i).2], ?_, ?_⟩, ?_, by rw [List.length_map, List.length_range]; omega⟩
      · refine ⟨by rw [range_len3 (fun i => (f i).1) (fun i => (f i).2)]; simp, .inr ⟨b, off, cap, by simp, by simpa using hl, hm, trivial, ?_, ?_⟩⟩
        · exact block_lt (hcell 0 hp).1
        · exact cells_range (fun i => (f i).1) (fun i => (f i).2) b off len hcell
      · exact entCells_range (fun i => (f i).1) (fun i => (f i).2) len fun i hi => ⟨(hf i hi).1.2.2.2.1, (hf i hi).1.2.2.2.2.1, (hf i hi).1.2.2.2.2.2⟩
      · intro e he
        obtain ⟨i, hi, rfl⟩ := List.mem_map.1 he
        exact (hf i (List.mem_range.1 hi)).2

theorem open_i64 {t : TypeId} {fuel : Nat} {v : Value} {x : DataW H × List MemPlace} (ht : Tryz.prog.underlying t = some (.int .i64)) (h : DataW.trod enc Tryz.prog W base spare held fuel t [v] = some x) : ∃ n, v = .int .i64 n ∧ in64 n := by
  obtain ⟨n, he, -, hw⟩ := DataW.trod_int ht h
  simp at he
  exact ⟨n, he, in64_wf hw⟩
set_option maxRecDepth 100000 in
theorem open_msg {fuel : Nat} {cs : List Value} {x : DataW H × List MemPlace} (h : DataW.trod enc Tryz.prog W base spare held fuel 42 cs = some x) (hz : ∀ n ∈ x.1.weights Tryz.prog 42, n ≤ reachBytes) :
    ∃ (m : Msg) (vl vd : Value), cs = msgCells m vl vd ∧ MsgAt (fun _ => True) W m vl vd ∧ Fine m := by
  obtain ⟨xs, n, _, rfl, hl, hlen, hf⟩ := DataW.trod_struct Tryz.underlying42 h
  have hc : Tryz.prog.cellsOf 42 = 11 := by kernel_rfl
  rw [hc] at hl
  have c0 : Tryz.prog.cellsOf 3 = 1 := by kernel_rfl
  have c1 : Tryz.prog.cellsOf 2 = 1 := by kernel_rfl
  have c2 : Tryz.prog.cellsOf 4 = 1 := by kernel_rfl
  have c3 : Tryz.prog.cellsOf 22 = 1 := by kernel_rfl
  have c4 : Tryz.prog.cellsOf 40 = 1 := by kernel_rfl
  match xs, hlen with
  | [y0, y1, y2, y3, y4, y5, y6, y7, y8, y9, y10], _ =>
    match cs, hl with
    | [x0, x1, x2, x3, x4, x5, x6, x7, x8, x9, x10], _ =>
      have g0 : DataW.trod enc Tryz.prog W base spare held n 3 ((([x0, x1, x2, x3, x4, x5, x6, x7, x8, x9, x10] : List Value).drop 0).take (Tryz.prog.cellsOf 3)) = some y0 := hf 0 _ rfl
      rw [c0] at g0
      have g1 : DataW.trod enc Tryz.prog W base spare held n 3 ((([x0, x1, x2, x3, x4, x5, x6, x7, x8, x9, x10] : List Value).drop 1).take (Tryz.prog.cellsOf 3)) = some y1 := hf 1 _ rfl
      rw [c0] at g1
      have g2 : DataW.trod enc Tryz.prog W base spare held n 3 ((([x0, x1, x2, x3, x4, x5, x6, x7, x8, x9, x10] : List Value).drop 2).take (Tryz.prog.cellsOf 3)) = some y2 := hf 2 _ rfl
      rw [c0] at g2
      have g3 : DataW.trod enc Tryz.prog W base spare held n 2 ((([x0, x1, x2, x3, x4, x5, x6, x7, x8, x9, x10] : List Value).drop 3).take (Tryz.prog.cellsOf 2)) = some y3 := hf 3 _ rfl
      rw [c1] at g3
      have g4 : DataW.trod enc Tryz.prog W base spare held n 2 ((([x0, x1, x2, x3, x4, x5, x6, x7, x8, x9, x10] : List Value).drop 4).take (Tryz.prog.cellsOf 2)) = some y4 := hf 4 _ rfl
      rw [c1] at g4
      have g5 : DataW.trod enc Tryz.prog W base spare held n 2 ((([x0, x1, x2, x3, x4, x5, x6, x7, x8, x9, x10] : List Value).drop 5).take (Tryz.prog.cellsOf 2)) = some y5 := hf 5 _ rfl
      rw [c1] at g5
      have g6 : DataW.trod enc Tryz.prog W base spare held n 2 ((([x0, x1, x2, x3, x4, x5, x6, x7, x8, x9, x10] : List Value).drop 6).take (Tryz.prog.cellsOf 2)) = some y6 := hf 6 _ rfl
      rw [c1] at g6
      have g7 : DataW.trod enc Tryz.prog W base spare held n 2 ((([x0, x1, x2, x3, x4, x5, x6, x7, x8, x9, x10] : List Value).drop 7).take (Tryz.prog.cellsOf 2)) = some y7 := hf 7 _ rfl
      rw [c1] at g7
      have g8 : DataW.trod enc Tryz.prog W base spare held n 4 ((([x0, x1, x2, x3, x4, x5, x6, x7, x8, x9, x10] : List Value).drop 8).take (Tryz.prog.cellsOf 4)) = some y8 := hf 8 _ rfl
      rw [c2] at g8
      have g9 : DataW.trod enc Tryz.prog W base spare held n 22 ((([x0, x1, x2, x3, x4, x5, x6, x7, x8, x9, x10] : List Value).drop 9).take (Tryz.prog.cellsOf 22)) = some y9 := hf 9 _ rfl
      rw [c3] at g9
      have g10 : DataW.trod enc Tryz.prog W base spare held n 40 ((([x0, x1, x2, x3, x4, x5, x6, x7, x8, x9, x10] : List Value).drop 10).take (Tryz.prog.cellsOf 40)) = some y10 := hf 10 _ rfl
      rw [c4] at g10
      have z9 := weights_agg Tryz.underlying42 _ hz (i := 9) rfl (d := y9.1) rfl
      have z10 := weights_agg Tryz.underlying42 _ hz (i := 10) rfl (d := y10.1) rfl
      obtain ⟨k0, rfl, i0⟩ := open_i64 Tryz.underlying3 (v := x0) g0
      obtain ⟨k1, rfl, i1⟩ := open_i64 Tryz.underlying3 (v := x1) g1
      obtain ⟨k2, rfl, i2⟩ := open_i64 Tryz.underlying3 (v := x2) g2
      obtain ⟨k3, rfl, i3⟩ := open_i64 Tryz.underlying2 (v := x3) g3
      obtain ⟨k4, rfl, i4⟩ := open_i64 Tryz.underlying2 (v := x4) g4
      obtain ⟨k5, rfl, i5⟩ := open_i64 Tryz.underlying2 (v := x5) g5
      obtain ⟨k6, rfl, i6⟩ := open_i64 Tryz.underlying2 (v := x6) g6
      obtain ⟨k7, rfl, i7⟩ := open_i64 Tryz.underlying2 (v := x7) g7
      obtain ⟨y, hy, -⟩ := DataW.trod_bool Tryz.underlying4 (cs := [x8]) g8
      obtain ⟨es, hE, hEl, -⟩ := open_entries_w (v := x9) g9 z9
      obtain ⟨dd, hD, hDl⟩ := open_bytes_w (v := x10) g10 z10
      simp at hy
      subst hy
      exact ⟨⟨k0, k1, k2, k3, k4, k5, k6, k7, y, es, dd⟩, x9, x10, rfl, ⟨hE, hD, i0, i1, i2, i3, i4, i5, i6, i7⟩, by show dd.length ≤ _; omega, fun e he => Nat.le_of_lt (hEl e he)⟩
end
end Go.Proofs.YtahagecdebadfaaGreat
