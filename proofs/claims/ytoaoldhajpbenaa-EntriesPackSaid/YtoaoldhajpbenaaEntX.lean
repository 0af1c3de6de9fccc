/- The statements' own 'same', of lists that are alike. No statement is proved here. -/
import Derived.Test.YtoaoldhajpbenaaEntC
import Derived.Test.YtoaoldhajpbenaaEntB
import Derived.Deep.RegionLaw
import Derived.Laws.IdiomStrings
namespace Go.Proofs.Ytoaoldhajpbenaa
open Go.RowKit

theorem bytes_str {S : Nat → Prop} {w : World} {v : Value} {xs : List UInt8} (h : Bytes S w v xs) : (convert 31 9 v).run Try.prog w = .ok (.string ⟨xs.toArray⟩) w := by
  have hs : Try.prog.underlying 9 = some .string := Try.underlying9
  rcases h.2 with ⟨h0, rfl | ⟨a, c, rfl⟩⟩ | ⟨b, o, c, rfl, hn, hc, _, hb, hcell⟩
  · obtain rfl : xs = [] := List.eq_nil_of_length_eq_zero h0
    rw [run_convert_bytes_string w _ _ _ none 0 0 Try.underlying31 Try.underlying5 hs]
    simp [Conv.bytesToString]
    rfl
  · obtain rfl : xs = [] := List.eq_nil_of_length_eq_zero h0
    exact run_convert_bytes_back w _ _ _ a c [] Try.underlying31 Try.underlying5 hs (fun j hj => by simp at hj)
  · refine run_convert_bytes_back w _ _ _ _ c xs Try.underlying31 Try.underlying5 hs (fun j hj => ?_)
    rw [add_plain]
    exact hcell j _ (by simp [byteCells, hj])

def Drawn (w w' : World) : Prop := ∃ m, w' = w.drewN m
theorem Drawn.refl (w : World) : Drawn w w := ⟨0, rfl⟩
theorem Drawn.drewN {w w' : World} (h : Drawn w w') (n : Nat) : Drawn w (w'.drewN n) := by
  obtain ⟨m, rfl⟩ := h
  exact ⟨m + n, by rw [World.drewN_drewN]⟩
theorem Drawn.below {w w' : World} (h : Drawn w w') : Below w.heap.size w w' := by
  obtain ⟨m, rfl⟩ := h
  exact below_drewN (Below.refl _ _) m
theorem Drawn.trans {a b c : World} (h : Drawn a b) (k : Drawn b c) : Drawn a c := by
  obtain ⟨m, rfl⟩ := k
  exact h.drewN m

set_option maxRecDepth 100000 in
set_option maxHeartbeats 1000000 in
theorem same_eq {S T : Nat → Prop} (va vb : Value) (l : List Ent) (w : World) (ha : Ents S w va l) (hb : Ents T w vb l) :
    Calls Try.prog 18 #[va, vb] w fun e w' => e = .returned (.bool true) ∧ Drawn w w' := by
  obtain ⟨A, ca, rfl⟩ := ha.slice
  obtain ⟨B, cb, rfl⟩ := hb.slice
  have HA := Lib.hid ha
  have HB := Lib.hid hb
  clear ha hb
  go_enter Try.func18, Try.ntmps18
  go_wp2_with fail
  go_loopw [5] (fun i wr => ∃ k : Nat, k ≤ l.length ∧ i = .int .i64 k ∧ Drawn w wr) (fun i _ => l.length - (intOf i).toNat)
  case atStart => exact ⟨0, Nat.zero_le _, rfl, Drawn.refl w⟩
  case round =>
    obtain ⟨k, hk, rfl, hD⟩ := hrel
    by_cases hlt : k < l.length
    · obtain ⟨csa, hra, hea⟩ := HA.out
      obtain ⟨csb, hrb, heb⟩ := HB.out
      obtain ⟨ab, ao, ac, he0, han, hac, -, hab, hacell⟩ := hra.form (by omega)
      injection he0 with he1 _ he2
      subst he1 he2
      obtain ⟨bb, bo, bc, he0, hbn, hbc, -, hbb, hbcell⟩ := hrb.form (by omega)
      injection he0 with he1 _ he2
      subst he1 he2
      obtain ⟨va, a0, a1, a2, -, -, hya⟩ := hea.at k hlt
      obtain ⟨vb, b0, b1, b2, -, -, hyb⟩ := heb.at k hlt
      have x0 : wr.cell? ⟨ab, ao + k * 3, none⟩ = some (.int .i64 l[k].kind) := cell_keep hD.below (hacell _ _ a0)
      have x1 : wr.cell? ⟨ab, ao + k * 3 + 1, none⟩ = some (.int .i64 l[k].term) := by rw [Nat.add_assoc]; exact cell_keep hD.below (hacell _ _ a1)
      have x2 : wr.cell? ⟨ab, ao + k * 3 + 2, none⟩ = some va := by rw [Nat.add_assoc]; exact cell_keep hD.below (hacell _ _ a2)
      have y0 : wr.cell? ⟨bb, bo + k * 3, none⟩ = some (.int .i64 l[k].kind) := cell_keep hD.below (hbcell _ _ b0)
      have y1 : wr.cell? ⟨bb, bo + k * 3 + 1, none⟩ = some (.int .i64 l[k].term) := by rw [Nat.add_assoc]; exact cell_keep hD.below (hbcell _ _ b1)
      have y2 : wr.cell? ⟨bb, bo + k * 3 + 2, none⟩ = some vb := by rw [Nat.add_assoc]; exact cell_keep hD.below (hbcell _ _ b2)
      have hlt2 : (k : Int) < (l.length : Int) := by omega
      have sa : ∀ n, (convert 31 9 va).run Try.prog (wr.drewN n) = .ok (.string ⟨l[k].cmd.toArray⟩) (wr.drewN n) := fun n => bytes_str (hya.keep (below_drewN hD.below n))
      have sb : ∀ n, (convert 31 9 vb).run Try.prog (wr.drewN n) = .ok (.string ⟨l[k].cmd.toArray⟩) (wr.drewN n) := fun n => bytes_str (hyb.keep (below_drewN hD.below n))
      have HD := Lib.hid hD
      unfold maxLen at hac hbc
      clear a0 a1 a2 b0 b1 b2 hacell hbcell hea heb hra hrb
      go_wp2_with fail
      go_quiet (fail)
      go_wp2_with fail
      go_roundw
      case rel => exact ⟨k + 1, hlt, by simp, HD.out.drewN _⟩
      case measure => simp [intOf]; omega
    · obtain rfl : k = l.length := by omega
      go_wp2_with fail
      go_ret
      exact ⟨rfl, hD⟩
end Go.Proofs.Ytoaoldhajpbenaa
