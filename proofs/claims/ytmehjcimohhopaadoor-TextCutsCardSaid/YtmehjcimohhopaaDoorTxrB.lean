/- The reference's digest: of a list the first word that is had. No statement is proved here. -/
import Derived.Test.YtmehjcimohhopaaDoorTxrA
namespace Go.Proofs.YtmehjcimohhopaaDoor
open Go.RowKit

/-- The first word that is had; none: nothing. -/
def digS (ws : List ByteArray) : ByteArray :=
  match ws.find? isD with
  | some x => x
  | none => ⟨#[]⟩
theorem find_none : ∀ (l : List ByteArray), (∀ x ∈ l, isD x = false) → l.find? isD = none
  | [], _ => rfl
  | x :: l, h => by
    rw [List.find?_cons, h x (by simp)]
    exact find_none l (fun y hy => h y (by simp [hy]))
theorem take_snocD {l : List ByteArray} {j : Nat} {p : ByteArray → Bool} (h : j < l.length) (ha : ∀ x ∈ l.take j, p x = false) (hp : p l[j] = false) : ∀ x ∈ l.take (j + 1), p x = false := by
  intro x hx
  rw [List.take_succ_eq_append_getElem h, List.mem_append] at hx
  rcases hx with hx | hx
  · exact ha x hx
  · rw [List.mem_singleton.1 hx]; exact hp
theorem isD_eq (x : ByteArray) : isD x = (x.toList == [78, 111, 110, 101] || x.toList == [67, 82, 67, 51, 50, 67]) := rfl
set_option maxRecDepth 100000 in
set_option maxHeartbeats 1000000 in
theorem ydigest_any (v : ByteArray) (w : World) (hs : v.size < 4294967281) :
    Calls Tryd.prog 65 #[.string v] w fun e w' => e = .returned (.string (digS (wordsB v))) ∧ Below w.heap.size w w' := by
  have HW := Lib.hid (fun W => ywords_any v W hs)
  have hlen : ((wordsB v).length : Int) ≤ 4294967281 := by
    have h1 := wordsB_len v
    have h2 := Lib.countB_le comma (by decide) v.size v (Nat.le_refl _)
    omega
  obtain ⟨ws, hws⟩ : ∃ ws, wordsB v = ws := ⟨_, rfl⟩
  rw [hws] at HW hlen ⊢
  clear hs hws
  go_enter Tryd.func65, Tryd.ntmps65
  go_wp2_with fail
  refine (HW.out _).mono ?_
  rintro _ W1 ⟨u, rfl, hrow, hb⟩
  obtain ⟨A, c, rfl⟩ := RowAt.slice hrow
  have HR := Lib.hid hrow
  have HB := Lib.hid hb
  clear hrow hb HW
  go_wp2_with fail
  go_loopw [4] (fun i wr => ∃ j : Nat, j ≤ ws.length ∧ i = .int .i64 j ∧ Hid (∀ x ∈ ws.take j, isD x = false) ∧ wr = W1) (fun i _ => ws.length - (intOf i).toNat)
  case atStart => exact ⟨0, Nat.zero_le _, rfl, Lib.hid (by simp), rfl⟩
  case round =>
    obtain ⟨j, hj, rfl, HJ, rfl⟩ := hrel
    by_cases hlt : j < ws.length
    · have hlt3 : (j : Int) < ws.length := by omega
      obtain ⟨b1, b2, b3, hv1, hn1, hc1, -, hab1, hcell1⟩ := RowAt.form HR.out (by omega)
      injection hv1 with hv1 _ hv3
      subst hv1 hv3
      have hx : (ws.map Value.string)[j * 1]? = some (.string ws[j]) := by simp [hlt]
      have x0 := hcell1 _ _ hx
      rw [Nat.mul_one] at x0
      have Hf := Lib.hid (find_at (p := isD) ws j hlt HJ.out)
      have Ht := Lib.hid (take_snocD hlt HJ.out)
      obtain ⟨x, hxj⟩ : ∃ x, ws[j] = x := ⟨_, rfl⟩
      rw [hxj] at x0 Hf Ht
      clear hx hxj hcell1 hn1 hab1
      by_cases hn : x.toList = [78, 111, 110, 101]
      · have hn2 : (x.toList == [78, 111, 110, 101]) = true := by simpa using hn
        have HD := Lib.hid (Hf.out (by rw [isD_eq, hn2]; rfl))
        clear hn
        go_wp2_with fail
        go_ret
        have e : digS ws = x := by unfold digS; rw [HD.out]
        rw [e]
        exact ⟨rfl, HB.out⟩
      · have hn2 : (x.toList == [78, 111, 110, 101]) = false := by simpa using hn
        clear hn
        by_cases hc : x.toList = [67, 82, 67, 51, 50, 67]
        · have hc2 : (x.toList == [67, 82, 67, 51, 50, 67]) = true := by simpa using hc
          have HD := Lib.hid (Hf.out (by rw [isD_eq, hc2]; simp))
          clear hc
          go_wp2_with fail
          go_ret
          have e : digS ws = x := by unfold digS; rw [HD.out]
          rw [e]
          exact ⟨rfl, HB.out⟩
        · have hc2 : (x.toList == [67, 82, 67, 51, 50, 67]) = false := by simpa using hc
          have HT := Lib.hid (Ht.out (by rw [isD_eq, hc2, hn2]; rfl))
          clear hc
          go_wp2_with fail
          go_roundw
          case rel => exact ⟨j + 1, hlt, by go_num, HT, trivial⟩
          case measure => simp [intOf]; omega
    · obtain rfl : j = ws.length := by omega
      have HN := Lib.hid (find_none ws (by have := HJ.out; rwa [List.take_length] at this))
      go_wp2_with fail
      go_ret
      have e : digS ws = ⟨#[]⟩ := by unfold digS; rw [HN.out]
      rw [e]
      exact ⟨rfl, HB.out⟩
end Go.Proofs.YtmehjcimohhopaaDoor
