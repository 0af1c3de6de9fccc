/- What is agreed on, as it came in, read. No statement is proved here. -/
import Derived.Test.YtmehjcimohhopaaDoorTxtBk
import Derived.Test.YtmehjcimohhopaaDoorTxrE
namespace Go.Proofs.YtmehjcimohhopaaDoor
open Go.ChangeShapes Go.WideShapes

section
variable {H : Type} {enc : TypeId × Value → H} {W : World} {base : Nat} {spare : Nat → Bool} {held : Bool}
set_option maxRecDepth 100000 in
theorem open_rpar {fuel : Nat} {cs : List Value} {x : DataW H × List MemPlace} (h : DataW.trod enc Tryd.prog W base spare held fuel 29 cs = some x) :
    ∃ p : Par, cs = (parCells p).toList ∧ in64 p.bu ∧ in64 p.fi := by
  obtain ⟨xs, n, -, -, hl, hlen, hf⟩ := DataW.trod_struct Tryd.underlying29 h
  have hc : Tryd.prog.cellsOf 29 = 11 := by kernel_rfl
  have c0 : Tryd.prog.cellsOf 4 = 1 := by kernel_rfl
  have c1 : Tryd.prog.cellsOf 3 = 1 := by kernel_rfl
  have c2 : Tryd.prog.cellsOf 9 = 1 := by kernel_rfl
  rw [hc] at hl
  match xs, hlen with
  | [y0, y1, y2, y3, y4, y5, y6, y7, y8, y9, y10], _ =>
    have h0 : DataW.trod enc Tryd.prog W base spare held n 4 ((cs.drop 0).take (Tryd.prog.cellsOf 4)) = some y0 := hf 0 _ rfl
    have h1 : DataW.trod enc Tryd.prog W base spare held n 4 ((cs.drop 1).take (Tryd.prog.cellsOf 4)) = some y1 := hf 1 _ rfl
    have h2 : DataW.trod enc Tryd.prog W base spare held n 3 ((cs.drop 2).take (Tryd.prog.cellsOf 3)) = some y2 := hf 2 _ rfl
    have h3 : DataW.trod enc Tryd.prog W base spare held n 3 ((cs.drop 3).take (Tryd.prog.cellsOf 3)) = some y3 := hf 3 _ rfl
    have h4 : DataW.trod enc Tryd.prog W base spare held n 3 ((cs.drop 4).take (Tryd.prog.cellsOf 3)) = some y4 := hf 4 _ rfl
    have h5 : DataW.trod enc Tryd.prog W base spare held n 3 ((cs.drop 5).take (Tryd.prog.cellsOf 3)) = some y5 := hf 5 _ rfl
    have h6 : DataW.trod enc Tryd.prog W base spare held n 4 ((cs.drop 6).take (Tryd.prog.cellsOf 4)) = some y6 := hf 6 _ rfl
    have h7 : DataW.trod enc Tryd.prog W base spare held n 4 ((cs.drop 7).take (Tryd.prog.cellsOf 4)) = some y7 := hf 7 _ rfl
    have h8 : DataW.trod enc Tryd.prog W base spare held n 4 ((cs.drop 8).take (Tryd.prog.cellsOf 4)) = some y8 := hf 8 _ rfl
    have h9 : DataW.trod enc Tryd.prog W base spare held n 9 ((cs.drop 9).take (Tryd.prog.cellsOf 9)) = some y9 := hf 9 _ rfl
    have h10 : DataW.trod enc Tryd.prog W base spare held n 9 ((cs.drop 10).take (Tryd.prog.cellsOf 9)) = some y10 := hf 10 _ rfl
    rw [c0] at h0 h1 h6 h7 h8
    rw [c1] at h2 h3 h4 h5
    rw [c2] at h9 h10
    match cs, hl with
    | [a0, a1, a2, a3, a4, a5, a6, a7, a8, a9, a10], _ =>
      obtain ⟨b0, e0, -⟩ := DataW.trod_bool Tryd.underlying4 h0
      obtain ⟨b1, e1, -⟩ := DataW.trod_bool Tryd.underlying4 h1
      obtain ⟨b2, e2, -, -⟩ := DataW.trod_int Tryd.underlying3 h2
      obtain ⟨b3, e3, -, -⟩ := DataW.trod_int Tryd.underlying3 h3
      obtain ⟨b4, e4, -, w4⟩ := DataW.trod_int Tryd.underlying3 h4
      obtain ⟨b5, e5, -, w5⟩ := DataW.trod_int Tryd.underlying3 h5
      obtain ⟨b6, e6, -⟩ := DataW.trod_bool Tryd.underlying4 h6
      obtain ⟨b7, e7, -⟩ := DataW.trod_bool Tryd.underlying4 h7
      obtain ⟨b8, e8, -⟩ := DataW.trod_bool Tryd.underlying4 h8
      obtain ⟨b9, e9, -, -⟩ := DataW.trod_string Tryd.underlying9 h9
      obtain ⟨b10, e10, -, -⟩ := DataW.trod_string Tryd.underlying9 h10
      simp at e0 e1 e2 e3 e4 e5 e6 e7 e8 e9 e10
      subst e0 e1 e2 e3 e4 e5 e6 e7 e8 e9 e10
      have k1 : IntKind.i64.min = -9223372036854775808 := rfl
      have k2 : IntKind.i64.max = 9223372036854775807 := rfl
      simp only [Lit.wf, Bool.and_eq_true, decide_eq_true_eq] at w4 w5
      exact ⟨⟨b0, b1, b2, b3, b4, b5, b6, b7, b8, b9, b10⟩, rfl, ⟨by show _ ≤ b4; omega, by show b4 ≤ _; omega⟩, ⟨by show _ ≤ b5; omega, by show b5 ≤ _; omega⟩⟩
end
end Go.Proofs.YtmehjcimohhopaaDoor
