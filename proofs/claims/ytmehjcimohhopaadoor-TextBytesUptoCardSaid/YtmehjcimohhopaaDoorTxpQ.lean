/- Bytes that came in, read, with a bound on their bulk. No statement is proved here. -/
import Derived.Test.YtmehjcimohhopaaDoorTxtBk
import Derived.OpenShut
namespace Go.Proofs.YtmehjcimohhopaaDoor
open Go.ChangeShapes Go.WideShapes

section
variable {H : Type} {enc : TypeId × Value → H} {W : World} {base : Nat} {spare : Nat → Bool} {held : Bool}
theorem bytes_of_ints : ∀ (zs : List Int), (∀ n ∈ zs, (Lit.int .u8 n).wf = true) → byteCells (zs.map fun n => UInt8.ofNat n.toNat) = zs.map (Value.int .u8)
  | [], _ => rfl
  | z :: zs, h => by
    have h0 := h z (by simp)
    simp [Lit.wf, IntKind.min, IntKind.max, IntKind.bits, IntKind.signed] at h0
    have ih := bytes_of_ints zs (fun n hn => h n (by simp [hn]))
    simp only [List.map_cons, byteCells] at ih ⊢
    have e : ((UInt8.ofNat z.toNat).toNat : Int) = z := by
      show ((z.toNat % 256 : Nat) : Int) = z
      omega
    rw [e, ih]

theorem open_bytes0 {fuel : Nat} {v : Value} {x : DataW H × List MemPlace} (h : DataW.trod enc Tryd.prog W base spare held fuel 48 [v] = some x) : ∃ xs : List UInt8, Bytes (fun _ => True) W v xs := by
  rcases open_ints Tryd.underlying48 Tryd.underlying5 (by kernel_rfl) h with ⟨hcs, -⟩ | ⟨a, len, cap, zs, hcs, hb, hl, hm, hz, -, hcell, hw⟩
  · simp at hcs
    subst hcs
    exact ⟨[], rfl, .inl ⟨rfl, .inl rfl⟩⟩
  · simp at hcs
    subst hcs
    have hle : len ≤ zs.length := by rw [hz]; split <;> omega
    have hb' := bytes_of_ints (zs.take len) (fun n hn => hw n (List.mem_of_mem_take hn))
    refine ⟨(zs.take len).map fun n => UInt8.ofNat n.toNat, ?_⟩
    have e : ((zs.take len).map fun n => UInt8.ofNat n.toNat).length = len := by simp; omega
    unfold Bytes
    rw [e, hb']
    refine ⟨by simp; omega, ?_⟩
    rcases Nat.eq_zero_or_pos len with rfl | hp
    · exact .inl ⟨rfl, .inr ⟨a, cap, rfl⟩⟩
    · obtain ⟨b, off, spot⟩ := a
      have hc0 := hcell 0 (by omega)
      have hspot : spot = none := by simpa [Addr.add] using World.cell?_spot hc0
      subst hspot
      refine .inr ⟨b, off, cap, rfl, hl, hm, trivial, ?_, fun i u hu => ?_⟩
      · have := block_lt hc0
        rw [add_plain] at this
        exact this
      · have hi := (List.getElem?_eq_some_iff.1 hu).1
        simp at hi
        have := hcell i (by omega)
        rw [add_plain] at this
        rw [this]
        simp only [List.getElem?_map, List.getElem?_take] at hu
        rw [if_pos (by omega), List.getElem?_eq_getElem (by omega)] at hu
        simp at hu
        rw [← hu]
        simp [List.getD, List.getElem?_eq_getElem (show i < zs.length by omega)]

theorem open_bytes {fuel N : Nat} {a : Option Addr} {len cap : Nat} {x : DataW H × List MemPlace} (h : DataW.trod enc Tryd.prog W base spare held fuel 48 [.slice a len cap] = some x) (hN : Rows.uptoBulk x.1 ≤ N) :
    ∃ xs : List UInt8, xs.length = len ∧ Bytes (fun _ => True) W (.slice a len cap) xs ∧ xs.length ≤ N := by
  obtain ⟨xs, hx⟩ := open_bytes0 h
  have hl : xs.length = len := by obtain ⟨A, c, e⟩ := hx.slice; injection e with _ e; exact e.symm
  refine ⟨xs, hl, hx, ?_⟩
  rcases open_ints Tryd.underlying48 Tryd.underlying5 (by kernel_rfl) h with ⟨hcs, -⟩ | ⟨a', len', cap', zs, hcs, hb, hl', hm, hz, hx', -, -⟩
  · simp at hcs
    omega
  · simp at hcs
    obtain ⟨rfl, rfl, rfl⟩ := hcs
    have hle : len ≤ zs.length := by rw [hz]; split <;> omega
    rw [hx'] at hN
    have h1 := bulk_slice (lits .u8 (zs.take len) : List (DataW H)) (lits .u8 (zs.drop len))
    have h2 := bulk_length (lits .u8 (zs.take len) : List (DataW H))
    have h3 : (lits .u8 (zs.take len) : List (DataW H)).length = len := by simp [lits]; omega
    have h4 : Rows.uptoBulk (.slice (lits .u8 (zs.take len)) (lits .u8 (zs.drop len)) : DataW H) ≤ N := hN
    omega
end
end Go.Proofs.YtmehjcimohhopaaDoor
