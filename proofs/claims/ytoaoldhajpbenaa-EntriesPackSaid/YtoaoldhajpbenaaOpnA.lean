/- Bytes and an entry that came in, read. No statement is proved here. -/
import Derived.Test.YtoaoldhajpbenaaEntO
import Derived.WideShapes
namespace Go.Proofs.Ytoaoldhajpbenaa
open Go.ChangeShapes Go.WideShapes

section
variable {H : Type} {enc : TypeId × Value → H} {W : World} {base : Nat} {spare : Nat → Bool} {held : Bool}
theorem open_bytes_len {fuel : Nat} {a : Option Addr} {len cap : Nat} {x : DataW H × List MemPlace} (h : DataW.trod enc Try.prog W base spare held fuel 31 [.slice a len cap] = some x) :
    (∃ xs : List UInt8, xs.length = len ∧ Bytes (fun _ => True) W (.slice a len cap) xs) ∧ (len = 0 ∨ ∃ D S, x.1 = .slice D S ∧ D.length = len) := by
  obtain ⟨xs, hx⟩ := open_bytes h
  have hl : xs.length = len := by obtain ⟨A, c, e⟩ := hx.slice; injection e with _ e; exact e.symm
  refine ⟨⟨xs, hl, hx⟩, ?_⟩
  rcases open_ints Try.underlying31 Try.underlying5 (by kernel_rfl) h with ⟨hcs, -⟩ | ⟨a', len', cap', zs, hcs, hb, hl', hm, hz, hx', -, -⟩
  · simp at hcs
    exact .inl hcs.2.1
  · simp at hcs
    obtain ⟨rfl, rfl, rfl⟩ := hcs
    right
    refine ⟨_, _, by rw [hx'], ?_⟩
    have hle : len ≤ zs.length := by rw [hz]; split <;> omega
    simp [lits]
    omega
end
end Go.Proofs.Ytoaoldhajpbenaa
