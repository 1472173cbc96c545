/- The statements of chapter 10: what they share. -/
import Derived.Test.YtpdbbpmkdkjppaaAllR
import Derived.Test.YtpdbbpmkdkjppaaNamesR
namespace Go.Proofs.Ytpdbbpmkdkjppaa
open Go.RowKit

theorem known_one : allR false (B ⟨#[38, 97, 109, 112, 59, 108, 116, 32, 38, 35, 54, 53, 59, 38, 35, 120, 52, 49, 32, 38, 35, 59]⟩) = [38, 108, 116, 32, 65, 65, 32, 38, 35, 59] := by decide +kernel
theorem known_two : allR true (B ⟨#[38, 110, 111, 116, 105, 116, 59]⟩) = [38, 110, 111, 116, 105, 116, 59] := by decide +kernel
theorem refknown_any (w : World) (hw : Lax w) :
    Calls Try.prog 9 #[] w fun e w' => e = .returned (.bool true) ∧ Below w.heap.size w w' := by
  have H1 := all_any ⟨#[38, 97, 109, 112, 59, 108, 116, 32, 38, 35, 54, 53, 59, 38, 35, 120, 52, 49, 32, 38, 35, 59]⟩ false w (by decide) hw
  rw [known_one] at H1
  have H2 := fun W hW => all_any ⟨#[38, 110, 111, 116, 105, 116, 59]⟩ true W (by decide) hW
  rw [known_two] at H2
  have HH1 := Lib.hid H1
  have HH2 := Lib.hid H2
  have HW := Lib.hid hw
  have t1 : ((S [38, 108, 116, 32, 65, 65, 32, 38, 35, 59]).toList == [38, 108, 116, 32, 65, 65, 32, 38, 35, 59]) = true := by rw [toList_S]; rfl
  have t2 : ((S [38, 110, 111, 116, 105, 116, 59]).toList == [38, 110, 111, 116, 105, 116, 59]) = true := by rw [toList_S]; rfl
  clear H1 H2 hw
  go_enter Try.func9, Try.ntmps9
  go_wp2_with fail
  refine HH1.out.mono ?_
  rintro e w1 ⟨rfl, b1⟩
  have HB1 := Lib.hid b1
  clear b1
  go_wp2_with fail
  refine (HH2.out _ (HW.out.below HB1.out)).mono ?_
  rintro e w2 ⟨rfl, b2⟩
  have HB2 := Lib.hid (below_both HB1.out b2)
  clear b2
  go_wp2_with fail
  go_ret
  exact ⟨rfl, HB2.out⟩
theorem refsame_any (s : ByteArray) (at_ : Int) (attr : Bool) (w : World) (hs : s.size ≤ 65536) (hw : Lax w) :
    Calls Try.prog 8 #[.string s, .int .i64 at_, .bool attr] w fun e w' => e = .returned (.bool true) ∧ Below w.heap.size w w' := by
  have H1 := Lib.hid (fun w => read_any s w attr hs at_)
  have H2 := Lib.hid (fun w => rread_any s w attr hs at_)
  have H3 := Lib.hid (fun w hw => all_any s attr w hs hw)
  have H4 := Lib.hid (fun w => rall_any s attr w hs)
  have HW := Lib.hid hw
  clear hw hs
  generalize readR (B s) at_ attr = r at *
  generalize allR attr (B s) = l at *
  obtain ⟨r1, r2⟩ := r
  have t1 : ((S r1).toList == (S r1).toList) = true := beq_self_eq_true _
  have t2 : ((S l).toList == (S l).toList) = true := beq_self_eq_true _
  have t3 : (r2 == r2) = true := beq_self_eq_true _
  unfold valR at H1 H2
  go_enter Try.func8, Try.ntmps8
  go_wp2_with fail
  refine (H1.out _).mono ?_
  rintro e w1 ⟨rfl, b1⟩
  have HB1 := Lib.hid b1
  clear b1
  go_wp2_with fail
  refine (H2.out _).mono ?_
  rintro e w2 ⟨rfl, b2⟩
  have HB2 := Lib.hid (below_both HB1.out b2)
  clear b2
  go_wp2_with fail
  refine (H3.out _ (HW.out.below HB2.out)).mono ?_
  rintro e w3 ⟨rfl, b3⟩
  have HB3 := Lib.hid (below_both HB2.out b3)
  clear b3
  go_wp2_with fail
  refine (H4.out _).mono ?_
  rintro e w4 ⟨rfl, b4⟩
  have HB4 := Lib.hid (below_both HB3.out b4)
  clear b4
  go_wp2_with fail
  go_ret
  exact ⟨rfl, HB4.out⟩

def PieceOut (w : World) (e : Ending) (w' : World) : Prop := ∃ p : ByteArray, e = .returned (.string p) ∧ p.size ≤ 40 ∧ Below w.heap.size w w'
theorem tmod_nat (k m : Nat) : (k : Int).tmod (m : Int) = ((k % m : Nat) : Int) := by
  rw [Int.tmod_eq_emod_of_nonneg (by omega)]; omega
theorem tdiv_nat (k m : Nat) : (k : Int).tdiv (m : Int) = ((k / m : Nat) : Int) := by
  rw [Int.tdiv_eq_ediv_of_nonneg (by omega)]; omega
end Go.Proofs.Ytpdbbpmkdkjppaa
