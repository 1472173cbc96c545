/- token.Right and arbourref8.Right answer the same at the tokens of TokenNumbers. -/
import Derived.Test.YtjghkiphfpeocaaTnFA
import Derived.Test.YtjghkiphfpeocaaTnFB
import Derived.Test.YtjghkiphfpeocaaTnG
namespace Go.Proofs.Ytjghkiphfpeocaa
open Go.RowKit

theorem right_gen (kd : Int) (nm : ByteArray) (hn : nm ∈ names7) (al : List At) (hl : al ∈ lists4) (sf : Bool) (tx : ByteArray) (A : Option Addr) (c : Nat) (w : World) (h : RdA w A al.length al) :
    Calls Try.prog 23 #[.agg #[.int .i64 kd, .string nm, .slice A al.length c, .bool sf, .string tx]] w fun e w' => e = .returned (.bool (rightB kd nm al sf tx)) ∧ Below w.heap.size w w' := by
  have hs : nm.size ≤ 65536 := by
    simp only [names7, List.mem_cons, List.mem_nil_iff, or_false] at hn
    rcases hn with rfl | rfl | rfl | rfl | rfl | rfl | rfl <;> decide
  unfold rightB
  by_cases q1 : kd = 1
  · subst q1; rw [if_pos rfl]; exact right_k1 w nm tx A _ c sf hs
  rw [if_neg q1]
  by_cases q2 : kd = 2
  · subst q2; rw [if_pos rfl]; exact right_k2 w nm tx A _ c sf hn al hl rfl h
  rw [if_neg q2]
  by_cases q3 : kd = 3
  · subst q3; rw [if_pos rfl]; exact right_k3 w nm tx A _ c sf hn
  rw [if_neg q3]
  by_cases q4 : kd = 4
  · subst q4; rw [if_pos rfl]; exact right_k4 w nm tx A _ c sf
  rw [if_neg q4]
  by_cases q5 : kd = 5
  · subst q5; rw [if_pos rfl]; exact right_k5 w nm tx A _ c sf
  rw [if_neg q5]
  by_cases q6 : kd = 6
  · subst q6; rw [if_pos rfl]; exact right_k6 w nm tx A _ c sf
  rw [if_neg q6]
  exact right_k0 w nm tx A _ c sf kd q1 q2 q3 q4 q5 q6

theorem pass_two : ∀ nm ∈ names7, nm = ⟨#[]⟩ ∨ nm = ⟨#[49]⟩ ∨ nm = ⟨#[80]⟩ ∨ (nm ∈ names7.filter (fun s => lowE s && (B s)[0]?.any letterB)) := by
  intro nm hn
  have hm := hn
  simp only [names7, List.mem_cons, List.mem_nil_iff, or_false] at hn
  rcases hn with rfl | rfl | rfl | rfl | rfl | rfl | rfl
  · exact .inl rfl
  · exact .inr (.inr (.inr (List.mem_filter.2 ⟨hm, by decide +kernel⟩)))
  · exact .inr (.inr (.inl rfl))
  · exact .inr (.inl rfl)
  · exact .inr (.inr (.inr (List.mem_filter.2 ⟨hm, by decide +kernel⟩)))
  · exact .inr (.inr (.inr (List.mem_filter.2 ⟨hm, by decide +kernel⟩)))
  · exact .inr (.inr (.inr (List.mem_filter.2 ⟨hm, by decide +kernel⟩)))
theorem pass_is : ∀ nm ∈ names7.filter (fun s => lowE s && (B s)[0]?.any letterB), (∀ al ∈ lists4, passR nm al = (tagN nm && listN al)) ∧ lowE nm = true ∧ (B nm)[0]?.any letterB = true ∧ nm.size ≤ 65536 := by
  have key : ((names7.filter (fun s => lowE s && (B s)[0]?.any letterB)).all fun nm => (lists4.all fun al => passR nm al == (tagN nm && listN al)) && (lowE nm && ((B nm)[0]?.any letterB && decide (nm.size ≤ 65536)))) = true := by decide +kernel
  intro nm hn
  have h := List.all_eq_true.1 key nm hn
  simp only [Bool.and_eq_true, decide_eq_true_eq, List.all_eq_true, beq_iff_eq] at h
  exact ⟨h.1, h.2.1, h.2.2.1, h.2.2.2⟩
theorem first_let {nm : ByteArray} (h : (B nm)[0]?.any letterB = true) : ∃ h0 : 0 < nm.size, letterB (nm[0]'h0) = true := by
  by_cases h0 : 0 < nm.size
  · refine ⟨h0, ?_⟩
    rw [B_at nm 0 h0] at h
    exact h
  · rw [List.getElem?_eq_none (by rw [← size_B]; omega)] at h
    cases h
theorem rr_gen (kd : Int) (nm : ByteArray) (hn : nm ∈ names7) (al : List At) (hl : al ∈ lists4) (sf : Bool) (tx : ByteArray) (A : Option Addr) (c : Nat) (w : World) (h : RdA w A al.length al) :
    Calls Try.prog 29 #[.agg #[.int .i64 kd, .string nm, .slice A al.length c, .bool sf, .string tx]] w fun e w' => e = .returned (.bool (rightB kd nm al sf tx)) ∧ Below w.heap.size w w' := by
  have hs : nm.size ≤ 65536 := by
    simp only [names7, List.mem_cons, List.mem_nil_iff, or_false] at hn
    rcases hn with rfl | rfl | rfl | rfl | rfl | rfl | rfl <;> decide
  unfold rightB
  by_cases q1 : kd = 1
  · subst q1
    rw [if_pos rfl]
    cases hle : lowE nm
    · rw [Bool.and_false]; exact rr1_1 w nm tx _ sf A c hs hle
    rw [Bool.and_true]
    by_cases h0 : al.length = 0
    · rw [h0]
      cases sf
      · by_cases ht : tx.size = 0
        · obtain rfl := size0 ht
          exact rr1_5 w nm A c hs hle
        · rw [show plainB true false false nm tx 0 false = false by simp [plainB, ht]]
          exact rr1_4 w nm tx A c hs hle ht
      · rw [show plainB true false false nm tx 0 true = false by simp [plainB]]
        exact rr1_3 w nm tx A c hs hle
    · rw [show plainB true false false nm tx al.length sf = false by simp [plainB, h0]]
      exact rr1_2 w nm tx _ sf A c hs hle h0
  rw [if_neg q1]
  by_cases q2 : kd = 2
  · subst q2
    rw [if_pos rfl]
    by_cases ht : tx.size = 0
    · obtain rfl := size0 ht
      rw [show plainB true true false nm ⟨#[]⟩ al.length sf = true by simp [plainB]; rfl, Bool.true_and]
      rcases pass_two nm hn with rfl | rfl | rfl | hp
      · exact rr2_e w _ sf A c
      · exact rr2_nl w ⟨#[49]⟩ _ sf A c (by decide) (by decide +kernel)
      · exact rr2_lo w ⟨#[80]⟩ _ sf A c (by decide) (by decide) (by decide +kernel) (by decide +kernel)
      · obtain ⟨p1, p2, p3, p4⟩ := pass_is nm hp
        obtain ⟨f0, f1⟩ := first_let p3
        rw [← p1 al hl]
        refine rr2_pass w nm _ sf A c al p4 f0 f1 p2 h ?_
        simp only [lists4, List.mem_cons, List.mem_nil_iff, or_false] at hl
        rcases hl with rfl | rfl | rfl | rfl <;> decide
    · rw [show plainB true true false nm tx al.length sf = false by simp [plainB, ht]]
      exact rr2_tx w nm tx _ sf A c ht
  rw [if_neg q2]
  by_cases q3 : kd = 3
  · subst q3
    rw [if_pos rfl]
    by_cases ht : tx.size = 0
    · obtain rfl := size0 ht
      cases sf
      · simp only [lists4, List.mem_cons, List.mem_nil_iff, or_false] at hl
        rcases hl with rfl | rfl | rfl | rfl
        · show Calls _ _ #[.agg #[.int .i64 3, .string nm, .slice A 0 c, .bool false, .string ⟨#[]⟩]] w _
          rw [show plainB true false false nm ⟨#[]⟩ (List.length ([] : List At)) false = true by simp [plainB]; rfl, Bool.true_and]
          rcases pass_two nm hn with rfl | rfl | rfl | hp
          · exact rr3_e w A c
          · exact rr3_nl w ⟨#[49]⟩ A c (by decide) (by decide +kernel)
          · exact rr3_lo w ⟨#[80]⟩ A c (by decide) (by decide) (by decide +kernel) (by decide +kernel)
          · obtain ⟨p1, p2, p3, p4⟩ := pass_is nm hp
            obtain ⟨f0, f1⟩ := first_let p3
            have e := p1 [] (by decide)
            rw [show listN [] = true by decide +kernel, Bool.and_true] at e
            rw [← e]
            exact rr3_pass w nm A c [] p4 f0 f1 p2 h (by decide)
        · rw [show plainB true false false nm ⟨#[]⟩ (List.length [atA, atA]) false = false by simp [plainB]]
          exact rr3_at2 w nm A c
        · rw [show plainB true false false nm ⟨#[]⟩ (List.length [atA, atBx]) false = false by simp [plainB]]
          exact rr3_at2 w nm A c
        · rw [show plainB true false false nm ⟨#[]⟩ (List.length [atE]) false = false by simp [plainB]]
          exact rr3_at1 w nm A c
      · rw [show plainB true false false nm ⟨#[]⟩ al.length true = false by simp [plainB]]
        exact rr3_sf w nm _ A c
    · rw [show plainB true false false nm tx al.length sf = false by simp [plainB, ht]]
      exact rr3_tx w nm tx _ sf A c ht
  rw [if_neg q3]
  by_cases q4 : kd = 4
  · subst q4
    rw [if_pos rfl]
    by_cases h1 : nm.size = 0
    · obtain rfl := size0 h1
      by_cases h0 : al.length = 0
      · rw [h0]
        cases sf
        · by_cases ht : tx.size = 0
          · obtain rfl := size0 ht
            exact rr4_5 w A c
          · rw [show (plainB false false true ⟨#[]⟩ tx 0 false && !decide (tx.size = 0)) = true by simp [plainB, ht]; rfl]
            exact rr4_4 w tx A c ht
        · rw [show plainB false false true ⟨#[]⟩ tx 0 true = false by simp [plainB]]
          exact rr4_3 w tx A c
      · rw [show plainB false false true ⟨#[]⟩ tx al.length sf = false by simp [plainB, h0]]
        exact rr4_2 w tx _ sf A c h0
    · rw [show plainB false false true nm tx al.length sf = false by simp [plainB, h1]]
      exact rr4_1 w nm tx _ sf A c h1
  rw [if_neg q4]
  by_cases q5 : kd = 5
  · subst q5
    rw [if_pos rfl]
    by_cases h1 : nm.size = 0
    · obtain rfl := size0 h1
      by_cases h0 : al.length = 0
      · rw [h0]
        cases sf
        · by_cases ht : tx.size = 0
          · obtain rfl := size0 ht
            exact rr5_5 w A c
          · rw [show plainB false false true ⟨#[]⟩ tx 0 false = true by simp [plainB]; rfl]
            exact rr5_4 w tx A c ht
        · rw [show plainB false false true ⟨#[]⟩ tx 0 true = false by simp [plainB]]
          exact rr5_3 w tx A c
      · rw [show plainB false false true ⟨#[]⟩ tx al.length sf = false by simp [plainB, h0]]
        exact rr5_2 w tx _ sf A c h0
    · rw [show plainB false false true nm tx al.length sf = false by simp [plainB, h1]]
      exact rr5_1 w nm tx _ sf A c h1
  rw [if_neg q5]
  by_cases q6 : kd = 6
  · subst q6
    rw [if_pos rfl]
    by_cases h1 : nm.size = 0
    · obtain rfl := size0 h1
      by_cases h0 : al.length = 0
      · rw [h0]
        cases sf
        · by_cases ht : tx.size = 0
          · obtain rfl := size0 ht
            exact rr6_5 w A c
          · rw [show plainB false false false ⟨#[]⟩ tx 0 false = false by simp [plainB, ht]]
            exact rr6_4 w tx A c ht
        · rw [show plainB false false false ⟨#[]⟩ tx 0 true = false by simp [plainB]]
          exact rr6_3 w tx A c
      · rw [show plainB false false false ⟨#[]⟩ tx al.length sf = false by simp [plainB, h0]]
        exact rr6_2 w tx _ sf A c h0
    · rw [show plainB false false false nm tx al.length sf = false by simp [plainB, h1]]
      exact rr6_1 w nm tx _ sf A c h1
  rw [if_neg q6]
  exact rr0 w nm tx _ sf A c kd q1 q2 q3 q4 q5 q6
end Go.Proofs.Ytjghkiphfpeocaa
