/- token.Right at the tokens of TokenNumbers: tagName, listed, Right. -/
import Derived.Test.YtjghkiphfpeocaaTnP
namespace Go.Proofs.Ytjghkiphfpeocaa
open Go.RowKit

theorem letter_lit (c : UInt8) (b : Bool) (h2 : letterB c = b) (w : World) : Calls Try.prog 38 #[.int .i32 (wrap32 (c.toNat : Int))] w fun e w' => e = .returned (.bool b) ∧ w = w' := by
  have h := letter_rune c w
  rw [h2] at h
  exact h
theorem contains_lit (s : ByteArray) (c : UInt8) (b : Bool) (h1 : decide (0 ≤ Lib.indexByte s.data.toList c) = b) (w : World) : Calls Try.prog 67 #[.string s, .string ⟨#[c]⟩] w fun e w' => e = .returned (.bool b) ∧ w = w' := by
  have h := Try.strings_Contains_one s c w
  rw [h1] at h
  exact h.mono fun _ _ h => ⟨h.1, h.2.symm⟩
set_option maxHeartbeats 4000000 in
theorem tag_empty (w : World) : Calls Try.prog 41 #[.string ⟨#[]⟩] w fun e w' => e = .returned (.bool false) ∧ Below w.heap.size w w' := by
  go_enter Try.func41, Try.ntmps41
  go_wp2_with fail
  go_ret
  exact ⟨rfl, Below.refl _ _⟩
set_option maxHeartbeats 4000000 in
theorem tag_one (w : World) : Calls Try.prog 41 #[.string ⟨#[49]⟩] w fun e w' => e = .returned (.bool false) ∧ Below w.heap.size w w' := by
  have HL := Lib.hid (fun w => letter_lit ((⟨#[49]⟩ : ByteArray)[0]'(by decide)) false (by decide +kernel) w)
  go_enter Try.func41, Try.ntmps41
  go_wp2_with (first | (go_at_call 38; with_reducible refine (HL.out _).mono ?_; rintro e w' ⟨rfl, rfl⟩))
  go_ret
  exact ⟨rfl, Below.refl _ _⟩
set_option maxHeartbeats 4000000 in
theorem tag_slash (w : World) : Calls Try.prog 41 #[.string ⟨#[112, 47]⟩] w fun e w' => e = .returned (.bool false) ∧ Below w.heap.size w w' := by
  have HL := Lib.hid (fun w => letter_lit ((⟨#[112, 47]⟩ : ByteArray)[0]'(by decide)) true (by decide +kernel) w)
  have HA : Hid (∀ w, Calls Try.prog 67 #[.string ⟨#[112, 47]⟩, .string ⟨#[47]⟩] w fun e w' => e = .returned (.bool true) ∧ w = w') := fun w => contains_lit ⟨#[112, 47]⟩ 47 true (by decide +kernel) w
  go_enter Try.func41, Try.ntmps41
  go_wp2_with (first
    | (go_at_call 38; with_reducible refine (HL.out _).mono ?_; rintro e w' ⟨rfl, rfl⟩)
    | (go_at_call 67; refine (HA.out _).mono ?_; rintro e w' ⟨rfl, rfl⟩))
  go_ret
  exact ⟨rfl, Below.refl _ _⟩
set_option maxHeartbeats 4000000 in
theorem tag_pq (w : World) : Calls Try.prog 41 #[.string ⟨#[112, 32, 113]⟩] w fun e w' => e = .returned (.bool false) ∧ Below w.heap.size w w' := by
  have HL := Lib.hid (fun w => letter_lit ((⟨#[112, 32, 113]⟩ : ByteArray)[0]'(by decide)) true (by decide +kernel) w)
  have HA : Hid (∀ w, Calls Try.prog 67 #[.string ⟨#[112, 32, 113]⟩, .string ⟨#[47]⟩] w fun e w' => e = .returned (.bool false) ∧ w = w') := fun w => contains_lit ⟨#[112, 32, 113]⟩ 47 false (by decide +kernel) w
  have HB : Hid (∀ w, Calls Try.prog 67 #[.string ⟨#[112, 32, 113]⟩, .string ⟨#[62]⟩] w fun e w' => e = .returned (.bool false) ∧ w = w') := fun w => contains_lit ⟨#[112, 32, 113]⟩ 62 false (by decide +kernel) w
  have HS := Lib.hid (fun w => split_pq w)
  go_enter Try.func41, Try.ntmps41
  go_wp2_with (first
    | (go_at_call 38; with_reducible refine (HL.out _).mono ?_; rintro e w' ⟨rfl, rfl⟩)
    | (go_at_call 67; with_reducible refine (HA.out _).mono ?_; rintro e w' ⟨rfl, rfl⟩)
    | (go_at_call 67; with_reducible refine (HB.out _).mono ?_; rintro e w' ⟨rfl, rfl⟩)
    | (go_at_call 68
       refine (HS.out _).mono ?_
       rintro e w1 ⟨⟨A, c, rfl⟩, b1⟩
       have HB1 := Lib.hid b1
       clear b1))
  go_ret
  exact ⟨rfl, HB1.out⟩
theorem tag_gen (s : ByteArray) (hs : s ∈ names7) (w : World) : Calls Try.prog 41 #[.string s] w fun e w' => e = .returned (.bool (tagN s)) ∧ Below w.heap.size w w' := by
  simp only [names7, List.mem_cons, List.mem_nil_iff, or_false] at hs
  rcases hs with rfl | rfl | rfl | rfl | rfl | rfl | rfl
  · exact tag_empty w
  · exact tagName_yes ⟨#[112]⟩ w (by decide) (by unfold NameOk okB; decide)
  · exact tagName_cap ⟨#[80]⟩ w (by decide) (by decide) (by decide) (by decide +kernel)
  · exact tag_one w
  · exact tagName_yes ⟨#[98, 114]⟩ w (by decide) (by unfold NameOk okB; decide)
  · exact tag_pq w
  · exact tag_slash w

def atE : At := ⟨⟨#[]⟩, ⟨#[]⟩⟩
def atA : At := ⟨⟨#[97]⟩, ⟨#[]⟩⟩
def atBx : At := ⟨⟨#[98]⟩, ⟨#[120]⟩⟩
def lists4 : List (List At) := [[], [atA, atA], [atA, atBx], [atE]]
def listN (l : List At) : Bool := !(decide (l = [atA, atA]) || decide (l = [atE]))
set_option maxHeartbeats 4000000 in
theorem listed_aa (w : World) (A : Option Addr) (c : Nat) (h : RdA w A 2 [atA, atA]) : Calls Try.prog 42 #[.slice A 2 c] w fun e w' => e = .returned (.bool false) ∧ Below w.heap.size w w' := by
  have H := Lib.hid (get_none w A 2 c [atA, atA] ⟨#[]⟩ h (by decide) (by decide +kernel))
  have HU := Lib.hid (fun (w1 : World) (b1 : Below w.heap.size w w1) => unique_at w1 A 2 c [atA, atA] (h.keep b1) (by decide))
  have e1 : uniqA [atA, atA] = [atA] := by decide +kernel
  rw [e1] at HU
  clear h e1
  go_enter Try.func42, Try.ntmps42
  go_wp2_with (first
    | (go_at_call 69
       refine H.out.mono ?_
       rintro e w1 ⟨rfl, b1⟩
       have HB1 := Lib.hid b1
       clear b1)
    | (go_at_call 70
       refine (HU.out _ HB1.out).mono ?_
       rintro e w2 ⟨v, rfl, hr, b2⟩
       obtain ⟨A2, c2, ev, _⟩ := hr.read
       have ev2 : v = .slice A2 1 c2 := ev
       subst ev2
       have HB2 := Lib.hid (below_then HB1.out HB1.out.size b2)
       clear b2 hr ev))
  go_ret
  exact ⟨rfl, HB2.out⟩
set_option maxHeartbeats 4000000 in
theorem get_e (w : World) (A : Option Addr) (c : Nat) (h : RdA w A 1 [atE]) : Calls Try.prog 69 #[.slice A 1 c, .string ⟨#[]⟩] w fun e w' => e = .returned (.tuple #[.string ⟨#[]⟩, .bool true]) ∧ Below w.heap.size w w' := by
  have H := Lib.hid (find_at w A 1 c [atE] ⟨#[]⟩ h (by decide))
  have e1 : findA [atE] ⟨#[]⟩ = 0 := by decide +kernel
  rw [e1] at H
  obtain ⟨ad, rfl, hc⟩ := h.2.2.2 (by decide)
  obtain ⟨b, o, sp⟩ := ad
  have k0 := hc 0 (.string ⟨#[]⟩) rfl
  obtain rfl : sp = none := by simpa [Addr.add] using World.cell?_spot k0
  have k1 := hc 1 (.string ⟨#[]⟩) rfl
  rw [Addr.add_lit] at k1
  have HK := Lib.hid k1
  clear h e1 hc k1 k0
  go_enter Try.func69, Try.ntmps69
  go_wp2_with (first
    | (go_at_call 80
       refine H.out.mono ?_
       rintro e w1 ⟨rfl, b1⟩
       have k2 := cell_keep b1 HK.out
       have HB1 := Lib.hid b1
       clear b1))
  go_ret2
  exact ⟨rfl, HB1.out⟩
set_option maxHeartbeats 4000000 in
theorem listed_e (w : World) (A : Option Addr) (c : Nat) (h : RdA w A 1 [atE]) : Calls Try.prog 42 #[.slice A 1 c] w fun e w' => e = .returned (.bool false) ∧ Below w.heap.size w w' := by
  have H := Lib.hid (get_e w A c h)
  clear h
  go_enter Try.func42, Try.ntmps42
  go_wp2_with (first
    | (go_at_call 69
       refine H.out.mono ?_
       rintro e w1 ⟨rfl, b1⟩
       have HB1 := Lib.hid b1
       clear b1))
  go_ret
  exact ⟨rfl, HB1.out⟩
theorem listed_gen (w : World) (A : Option Addr) (c : Nat) (l : List At) (hl : l ∈ lists4) (h : RdA w A l.length l) : Calls Try.prog 42 #[.slice A l.length c] w fun e w' => e = .returned (.bool (listN l)) ∧ Below w.heap.size w w' := by
  simp only [lists4, List.mem_cons, List.mem_nil_iff, or_false] at hl
  rcases hl with rfl | rfl | rfl | rfl
  · exact listed_yes w A 0 c [] h (by decide) (by unfold Listed NoDup; decide)
  · exact listed_aa w A c h
  · exact listed_yes w A 2 c _ h (by decide) (by unfold Listed NoDup; decide)
  · exact listed_e w A c h
end Go.Proofs.Ytjghkiphfpeocaa
