/- Answers to a value: what the program's helpers come to, in terms of the parameters' block. No statement is proved here. -/
import Derived.Test.YtmehjcimohhopaaDoorTxtG
import Derived.Test.YtmehjcimohhopaaDoorTxtSh
namespace Go.Proofs.YtmehjcimohhopaaDoor
open Go.RowKit

/-- The parameters' block b holds these cells, and the answer is this. -/
def AnsTo (w : World) (b : Nat) (res : Array Value × Ans) (e : Ending) (w' : World) : Prop :=
  e = .returned (ansV res.2) ∧ w.grownBy w' (some b) ∧ w'.heap[b]? = some (.cells res.1 32 (0, 0))
def zeroA : Ans := ⟨⟨#[]⟩, false, false⟩
/-- What comes of a value that must be a number within bounds. -/
def numAns (cs : Array Value) (v : ByteArray) (lo hi : Int) (F : Int → Array Value × Ans) : Array Value × Ans :=
  if (numP v.data.toList).2 = 0 ∧ lo ≤ (numP v.data.toList).1 ∧ (numP v.data.toList).1 ≤ hi then F (numP v.data.toList).1 else (cs, zeroA)

theorem num_to (b : Nat) (cs : Array Value) (v : ByteArray) (lo hi : Int) (f : FuncId) (caps : Array Value) (F : Int → Array Value × Ans) (w : World) (hb : w.heap[b]? = some (.cells cs 32 (0, 0)))
    (hrun : ∀ (args : Array Value) (w : World), Sem.run Tryd.prog (callFunc f args) w = .ok (.enter f args) w)
    (hF : ∀ n, lo ≤ n → n ≤ hi → ∀ W, Below w.heap.size w W → Calls Tryd.prog f (#[.int .i64 n] ++ caps) W (AnsTo W b (F n))) :
    Calls Tryd.prog 52 #[.string v, .int .i64 lo, .int .i64 hi, .func (.func f) #[] caps] w (AnsTo w b (numAns cs v lo hi F)) := by
  have hbl : b < w.heap.size := (Array.getElem?_eq_some_iff.1 hb).1
  refine (number_any v lo hi f caps (fun a W => a = (F (numP v.data.toList).1).2 ∧ W.heap[b]? = some (.cells (F (numP v.data.toList).1).1 32 (0, 0))) w (some b) hrun ?_ (fun k hk => by injection hk with hk; omega) ?_).mono ?_
  · intro h0 h1 h2 W hW
    refine (hF _ h1 h2 W hW).mono ?_
    rintro e W' ⟨rfl, hg, hh⟩
    exact ⟨_, rfl, hg, rfl, hh⟩
  · rintro a W r x y z hr ⟨rfl, hh⟩
    exact ⟨rfl, set3_other hh (by omega) x y z⟩
  · rintro e w' (⟨h, rfl, hb2⟩ | ⟨h, a, rfl, hg, rfl, hh⟩)
    · unfold numAns
      rw [if_neg h]
      exact ⟨rfl, grown_of_below hb2 _, blk_keep hb2 hb⟩
    · unfold numAns
      rw [if_pos h]
      exact ⟨rfl, hg, hh⟩
theorem ansTo_below {w w' : World} {b : Nat} {cs : Array Value} {a : Ans} (hb : w.heap[b]? = some (.cells cs 32 (0, 0))) (h : Below w.heap.size w w') : AnsTo w b (cs, a) (.returned (ansV a)) w' := ⟨rfl, grown_of_below h _, blk_keep h hb⟩

theorem nconst_to (b c : Nat) (cs : Array Value) (s v : ByteArray) (lo hi : Int) (ts : TypeId) (w : World) (hb : w.heap[b]? = some (.cells cs 32 (0, 0))) (hc : w.heap[c]? = some (.cells #[.string s] ts (0, 0))) :
    Calls Tryd.prog 52 #[.string v, .int .i64 lo, .int .i64 hi, .func (.func 48) #[] #[.pointer (some ⟨c, 0, none⟩)]] w (AnsTo w b (numAns cs v lo hi fun _ => (cs, ⟨s, true, true⟩))) := by
  refine num_to b cs v lo hi _ _ _ w hb (fun _ _ => by kernel_rfl) ?_
  intro n _ _ W hW
  refine (const_any c s n ts W (blk_keep hW hc)).mono ?_
  rintro e W' ⟨rfl, h⟩
  exact ansTo_below (blk_keep hW hb) h
theorem nwait_to (b : Nat) (cs : Array Value) (v : ByteArray) (lo hi : Int) (w : World) (hb : w.heap[b]? = some (.cells cs 32 (0, 0))) (hlo : 0 ≤ lo) (hhi : hi ≤ 16777215) :
    Calls Tryd.prog 52 #[.string v, .int .i64 lo, .int .i64 hi, .func (.func 59) #[] #[]] w (AnsTo w b (numAns cs v lo hi fun n => (cs, ⟨⟨(digP (if n < 2 then 2 else n)).toArray⟩, true, true⟩))) := by
  refine num_to b cs v lo hi _ _ _ w hb (fun _ _ => by kernel_rfl) ?_
  intro n h1 h2 W hW
  refine (wait_any n W ⟨by omega, by omega⟩).mono ?_
  rintro e W' ⟨rfl, h⟩
  exact ansTo_below (blk_keep hW hb) h
theorem nsize_to (b c k : Nat) (cs : Array Value) (h : Int) (v : ByteArray) (lo hi : Int) (tp : TypeId) (w : World) (hb : w.heap[b]? = some (.cells cs 32 (0, 0))) (hk : cs[k]? = some (.int .i64 h)) (hc : w.heap[c]? = some (.cells #[.pointer (some ⟨b, k, none⟩)] tp (0, 0)))
    (hin : in64 h) (hbc : b ≠ c) (hlo : 0 ≤ lo) (hhi : hi ≤ 16777215) :
    Calls Tryd.prog 52 #[.string v, .int .i64 lo, .int .i64 hi, .func (.func 76) #[] #[.pointer (some ⟨c, 0, none⟩)]] w
      (AnsTo w b (numAns cs v lo hi fun n => (cs.setIfInBounds k (.int .i64 (if n < h then n else h)), ⟨⟨(digP (if n < h then n else h)).toArray⟩, true, true⟩))) := by
  refine num_to b cs v lo hi _ _ _ w hb (fun _ _ => by kernel_rfl) ?_
  intro n h1 h2 W hW
  refine (size1_any b c k cs h n _ tp W (blk_keep hW hb) hk (blk_keep hW hc) rfl ?_ hbc).mono ?_
  · unfold in64 at *; split <;> omega
  · rintro e W' ⟨a, rfl, hg, rfl, hh⟩
    exact ⟨rfl, hg, hh⟩
theorem nmost_to (b c : Nat) (cs : Array Value) (o : Int) (v : ByteArray) (lo hi : Int) (tp : TypeId) (w : World) (hb : w.heap[b]? = some (.cells cs 32 (0, 0))) (hk : cs[2]? = some (.int .i64 o)) (hc : w.heap[c]? = some (.cells #[.pointer (some ⟨b, 0, none⟩)] tp (0, 0))) (hbc : b ≠ c) :
    Calls Tryd.prog 52 #[.string v, .int .i64 lo, .int .i64 hi, .func (.func 53) #[] #[.pointer (some ⟨c, 0, none⟩)]] w
      (AnsTo w b (numAns cs v lo hi fun n => (cs.setIfInBounds 2 (.int .i64 (if 65536 < n then 65536 else n)), ⟨⟨#[]⟩, false, true⟩))) := by
  refine num_to b cs v lo hi _ _ _ w hb (fun _ _ => by kernel_rfl) ?_
  intro n h1 h2 W hW
  refine (mostOut_any b c cs n _ o tp W (blk_keep hW hb) hk (blk_keep hW hc) rfl hbc).mono ?_
  rintro e W' ⟨a, rfl, hg, rfl, hh⟩
  exact ⟨rfl, hg, hh⟩

/-- What comes of a value that must be Yes or No. -/
def swAns (cs : Array Value) (v : ByteArray) (F : Bool → Array Value × Ans) : Array Value × Ans :=
  if v.toList = [89, 101, 115] then F true else if v.toList = [78, 111] then F false else (cs, zeroA)
set_option maxRecDepth 100000 in
set_option maxHeartbeats 1000000 in
theorem sw_to (b : Nat) (cs : Array Value) (v : ByteArray) (f : FuncId) (caps : Array Value) (F : Bool → Array Value × Ans) (w : World) (hb : w.heap[b]? = some (.cells cs 32 (0, 0)))
    (hrun : ∀ (args : Array Value) (w : World), Sem.run Tryd.prog (callFunc f args) w = .ok (.enter f args) w)
    (hF : ∀ x, ∀ W, Below w.heap.size w W → Calls Tryd.prog f (#[.bool x] ++ caps) W (AnsTo W b (F x))) :
    Calls Tryd.prog 55 #[.string v, .func (.func f) #[] caps] w (AnsTo w b (swAns cs v F)) := by
  have hbl : b < w.heap.size := (Array.getElem?_eq_some_iff.1 hb).1
  have b1 := box_below w (.cells #[.string ⟨#[]⟩, .bool false, .bool false] 65)
  have hZ := blk_new w (.cells #[.string ⟨#[]⟩, .bool false, .bool false] 65)
  have hb1 := blk_keep b1 hb
  have HF := Lib.hid hF
  have H1 := Lib.hid (And.intro b1 (And.intro hZ hb1))
  have Hb := Lib.hid hb
  clear b1 hZ hb1 hb hF
  unfold swAns
  by_cases hy : v.toList = [89, 101, 115]
  · rw [if_pos hy]
    have HC := Lib.hid (HF.out true _ H1.out.1)
    go_enter Tryd.func55, Tryd.ntmps55
    go_wp2_with fail
    refine HC.out.mono ?_
    rintro _ w2 ⟨rfl, hg, hh⟩
    obtain ⟨⟨av, at_, ao⟩, hA⟩ : ∃ a, (F true).2 = a := ⟨_, rfl⟩
    have hblk2 := grown_blk hg (b := w.heap.size) (by intro h; injection h with h; omega) H1.out.2.1
    obtain ⟨c0, c1, c2, f0, f1, f2⟩ := cells3 hblk2
    have Hx := Lib.hid (And.intro hblk2 (And.intro (grown_belowR H1.out.1 hg (fun k hk => by injection hk with hk; omega)) (And.intro hh hA)))
    rw [hA]
    clear hblk2 hg hh hA
    simp only [ansV]
    go_wp2_with fail
    have hZ := set3 Hx.out.1 (.string av) (.bool at_) (.bool ao)
    have hB := grown3 Hx.out.2.1 (Nat.le_refl _) (.string av) (.bool at_) (.bool ao)
    have hP := set3_other Hx.out.2.2.1 (show w.heap.size ≠ b by omega) (.string av) (.bool at_) (.bool ao)
    obtain ⟨WF, hWF⟩ : ∃ W, ((w2.setCell ⟨w.heap.size, 0, none⟩ (.string av)).setCell ⟨w.heap.size, 1, none⟩ (.bool at_)).setCell ⟨w.heap.size, 2, none⟩ (.bool ao) = W := ⟨_, rfl⟩
    rw [hWF] at hZ hB hP ⊢
    obtain ⟨z0, z1, z2, -, -, -⟩ := cells3 hZ
    exact bodyPost_ret (v := .agg #[.string av, .bool at_, .bool ao]) (by simp [results, Tryd.results55, go_sem, z0, z1, z2]) rfl ⟨by rw [Hx.out.2.2.2]; rfl, hB, hP⟩
  · rw [if_neg hy]
    by_cases hn : v.toList = [78, 111]
    · rw [if_pos hn]
      have HC := Lib.hid (HF.out false _ H1.out.1)
      go_enter Tryd.func55, Tryd.ntmps55
      go_wp2_with fail
      refine HC.out.mono ?_
      rintro _ w2 ⟨rfl, hg, hh⟩
      obtain ⟨⟨av, at_, ao⟩, hA⟩ : ∃ a, (F false).2 = a := ⟨_, rfl⟩
      have hblk2 := grown_blk hg (b := w.heap.size) (by intro h; injection h with h; omega) H1.out.2.1
      obtain ⟨c0, c1, c2, f0, f1, f2⟩ := cells3 hblk2
      have Hx := Lib.hid (And.intro hblk2 (And.intro (grown_belowR H1.out.1 hg (fun k hk => by injection hk with hk; omega)) (And.intro hh hA)))
      rw [hA]
      clear hblk2 hg hh hA
      simp only [ansV]
      go_wp2_with fail
      have hZ := set3 Hx.out.1 (.string av) (.bool at_) (.bool ao)
      have hB := grown3 Hx.out.2.1 (Nat.le_refl _) (.string av) (.bool at_) (.bool ao)
      have hP := set3_other Hx.out.2.2.1 (show w.heap.size ≠ b by omega) (.string av) (.bool at_) (.bool ao)
      obtain ⟨WF, hWF⟩ : ∃ W, ((w2.setCell ⟨w.heap.size, 0, none⟩ (.string av)).setCell ⟨w.heap.size, 1, none⟩ (.bool at_)).setCell ⟨w.heap.size, 2, none⟩ (.bool ao) = W := ⟨_, rfl⟩
      rw [hWF] at hZ hB hP ⊢
      obtain ⟨z0, z1, z2, -, -, -⟩ := cells3 hZ
      exact bodyPost_ret (v := .agg #[.string av, .bool at_, .bool ao]) (by simp [results, Tryd.results55, go_sem, z0, z1, z2]) rfl ⟨by rw [Hx.out.2.2.2]; rfl, hB, hP⟩
    · rw [if_neg hn]
      obtain ⟨r0, r1, r2, f0, f1, f2⟩ := cells3 H1.out.2.1
      obtain ⟨W1, hW1⟩ : ∃ W, w.alloc (.cells #[.string ⟨#[]⟩, .bool false, .bool false] 65) = W := ⟨_, rfl⟩
      rw [hW1] at r0 r1 r2 f0 f1 f2 H1
      have hy2 : (v.toList == [89, 101, 115]) = false := by simpa using hy
      have hn2 : (v.toList == [78, 111]) = false := by simpa using hn
      go_enter Tryd.func55, Tryd.ntmps55
      go_wp2_with fail
      have hZ := set3 H1.out.2.1 (.string ⟨#[]⟩) (.bool false) (.bool false)
      have hB := below3 H1.out.1 (Nat.le_refl _) (.string ⟨#[]⟩) (.bool false) (.bool false)
      obtain ⟨z0, z1, z2, -, -, -⟩ := cells3 hZ
      exact bodyPost_ret (v := .agg #[.string ⟨#[]⟩, .bool false, .bool false]) (by simp [results, Tryd.results55, go_sem, z0, z1, z2]) rfl (ansTo_below Hb.out hB)
end Go.Proofs.YtmehjcimohhopaaDoor
