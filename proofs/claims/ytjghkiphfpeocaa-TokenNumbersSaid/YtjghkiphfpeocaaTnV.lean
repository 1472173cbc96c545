/- TokenNumbers, walked (printed). -/
import Derived.Test.YtjghkiphfpeocaaTnU
import Derived.Test.YtjghkiphfpeocaaJoin
import Derived.LoopN
namespace Go.Proofs.Ytjghkiphfpeocaa
open Go.RowKit Go.BigFrame

theorem rdA_lit (w : World) (l : List At) : RdA (w.alloc (.cells (l.flatMap enc_at).toArray 42)) (some ⟨w.heap.size, 0, none⟩) l.length l :=
  ⟨rfl, row_len encOk_at l, row_one encOk_at l, fun _ => ⟨_, rfl, fun j u hu => by
    have hb1 : Blk (w.alloc (.cells (l.flatMap enc_at).toArray 42)) w.heap.size 42 (l.flatMap enc_at).toArray (0, 0) := Blk.new w _ _ _
    have e : (⟨w.heap.size, 0, none⟩ : Addr).add j = ⟨w.heap.size, j, none⟩ := add0 _ _
    rw [e, hb1.cell j, List.getElem?_toArray]; exact hu⟩⟩
def atsOk : List At → Bool := fun l => decide (l.length ≤ 2)
theorem fits_small (kd : Int) (nm : ByteArray) (al : List At) (sf : Bool) (tx : ByteArray) (h : nm.size + tx.size + szA al ≤ 100) : (Tk.mk kd nm al sf tx).fits := by
  unfold Tk.fits
  simp only
  omega

set_option maxRecDepth 100000 in
set_option maxHeartbeats 8000000 in
theorem walk_TokenNumbers (w : World) :
    Calls Try.prog 7 #[] w fun e w' => e = .returned (.bool true) ∧ Below w.heap.size w w' := by
  go_enter Try.func7, Try.ntmps7
  go_wp2_with fail
  go_loopw [1, 2] (fun kv _ wr => ∃ k : Nat, k ≤ 9 ∧ kv = .int .i64 ((k : Int) - 1) ∧ Below w.heap.size w wr) (fun kv _ _ => (8 - intOf kv).toNat)
  case atStart => exact ⟨0, by omega, rfl, Below.refl _ _⟩
  case round =>
    obtain ⟨k, hk, rfl, hb⟩ := hrel
    have HB := Lib.hid hb
    clear hb
    by_cases hlt : k < 9
    · have d0 : decide ((k : Int) - 1 < 8) = true := decide_eq_true (by omega)
      have s1 : IntKind.i64.wrap ((k : Int) - 1 + 1) = (k : Int) - 1 + 1 := IntWalk.i64_in _ (by omega)
      obtain ⟨kd, hkd⟩ : ∃ kd, kd = (k : Int) - 1 := ⟨_, rfl⟩
      rw [← hkd] at d0 s1 ⊢
      have HKD := Lib.hid hkd
      clear hkd
      go_wp2_with fail
      go_loopw [2, 3] (fun iv _ wr2 => ∃ i : Nat, i ≤ 12 ∧ iv = .int .i64 i ∧ Below w.heap.size w wr2) (fun iv _ _ => 12 - (intOf iv).toNat)
      case atStart => exact ⟨0, by omega, rfl, HB.out⟩
      case round =>
        obtain ⟨i, hi, rfl, hb2⟩ := hrel
        have HB2 := Lib.hid hb2
        clear hb2 d0
        have hcs : i = 0 ∨ i = 1 ∨ i = 2 ∨ i = 3 ∨ i = 4 ∨ i = 5 ∨ i = 6 ∨ i = 7 ∨ i = 8 ∨ i = 9 ∨ i = 10 ∨ i = 11 ∨ i = 12 := by omega
        clear hi
        rcases hcs with rfl | rfl | rfl | rfl | rfl | rfl | rfl | rfl | rfl | rfl | rfl | rfl | rfl
        · go_wp2_with fail
          have hr : ∀ W : World, RdA W none 0 [] := fun W => RdA.nil' W
          have hbz := (Below.refl wr.heap.size wr).alloc (Nat.le_refl _) (.cells #[.int .i64 kd, .string ⟨#[]⟩, .slice none 0 0, .bool false, .string ⟨#[]⟩] 34)
          refine (tn_same kd ⟨#[]⟩ (by simp [names7]) [] (by simp [lists4]) false ⟨#[]⟩ none 0 _ (hr _) (fits_small kd _ _ _ _ (by decide)) (by decide)).mono ?_
          rintro e w2 ⟨rfl, b2⟩
          have HB3 := Lib.hid (below_then HB2.out HB2.out.size (below_then hbz hbz.size b2))
          clear b2 hbz hr
          go_wp2_with fail
          exact ⟨⟨1, by omega, by go_num, HB3.out⟩, by simp [intOf]⟩
        · go_wp2_with fail
          have hr : ∀ W : World, RdA W none 0 [] := fun W => RdA.nil' W
          have hbz := (Below.refl wr.heap.size wr).alloc (Nat.le_refl _) (.cells #[.int .i64 kd, .string ⟨#[112]⟩, .slice none 0 0, .bool false, .string ⟨#[]⟩] 34)
          refine (tn_same kd ⟨#[112]⟩ (by simp [names7]) [] (by simp [lists4]) false ⟨#[]⟩ none 0 _ (hr _) (fits_small kd _ _ _ _ (by decide)) (by decide)).mono ?_
          rintro e w2 ⟨rfl, b2⟩
          have HB3 := Lib.hid (below_then HB2.out HB2.out.size (below_then hbz hbz.size b2))
          clear b2 hbz hr
          go_wp2_with fail
          exact ⟨⟨2, by omega, by go_num, HB3.out⟩, by simp [intOf]⟩
        · go_wp2_with fail
          have hr : ∀ W : World, RdA W none 0 [] := fun W => RdA.nil' W
          have hbz := (Below.refl wr.heap.size wr).alloc (Nat.le_refl _) (.cells #[.int .i64 kd, .string ⟨#[80]⟩, .slice none 0 0, .bool false, .string ⟨#[]⟩] 34)
          refine (tn_same kd ⟨#[80]⟩ (by simp [names7]) [] (by simp [lists4]) false ⟨#[]⟩ none 0 _ (hr _) (fits_small kd _ _ _ _ (by decide)) (by decide)).mono ?_
          rintro e w2 ⟨rfl, b2⟩
          have HB3 := Lib.hid (below_then HB2.out HB2.out.size (below_then hbz hbz.size b2))
          clear b2 hbz hr
          go_wp2_with fail
          exact ⟨⟨3, by omega, by go_num, HB3.out⟩, by simp [intOf]⟩
        · go_wp2_with fail
          have hr : ∀ W : World, RdA W none 0 [] := fun W => RdA.nil' W
          have hbz := (Below.refl wr.heap.size wr).alloc (Nat.le_refl _) (.cells #[.int .i64 kd, .string ⟨#[49]⟩, .slice none 0 0, .bool false, .string ⟨#[]⟩] 34)
          refine (tn_same kd ⟨#[49]⟩ (by simp [names7]) [] (by simp [lists4]) false ⟨#[]⟩ none 0 _ (hr _) (fits_small kd _ _ _ _ (by decide)) (by decide)).mono ?_
          rintro e w2 ⟨rfl, b2⟩
          have HB3 := Lib.hid (below_then HB2.out HB2.out.size (below_then hbz hbz.size b2))
          clear b2 hbz hr
          go_wp2_with fail
          exact ⟨⟨4, by omega, by go_num, HB3.out⟩, by simp [intOf]⟩
        · go_wp2_with fail
          have hr : ∀ W : World, RdA W none 0 [] := fun W => RdA.nil' W
          have hbz := (Below.refl wr.heap.size wr).alloc (Nat.le_refl _) (.cells #[.int .i64 kd, .string ⟨#[98, 114]⟩, .slice none 0 0, .bool true, .string ⟨#[]⟩] 34)
          refine (tn_same kd ⟨#[98, 114]⟩ (by simp [names7]) [] (by simp [lists4]) true ⟨#[]⟩ none 0 _ (hr _) (fits_small kd _ _ _ _ (by decide)) (by decide)).mono ?_
          rintro e w2 ⟨rfl, b2⟩
          have HB3 := Lib.hid (below_then HB2.out HB2.out.size (below_then hbz hbz.size b2))
          clear b2 hbz hr
          go_wp2_with fail
          exact ⟨⟨5, by omega, by go_num, HB3.out⟩, by simp [intOf]⟩
        · go_wp2_with fail
          have hr := rdA_lit (wr.alloc (.cells #[.int .i64 kd, .string ⟨#[112]⟩, .slice (some ⟨wr.heap.size + 1, 0, none⟩) 2 2, .bool false, .string ⟨#[]⟩] 34)) [atA, atA]
          rw [show (wr.alloc (.cells #[.int .i64 kd, .string ⟨#[112]⟩, .slice (some ⟨wr.heap.size + 1, 0, none⟩) 2 2, .bool false, .string ⟨#[]⟩] 34)).heap.size = wr.heap.size + 1 by simp] at hr
          have hbz := ((Below.refl wr.heap.size wr).alloc (Nat.le_refl _) (.cells #[.int .i64 kd, .string ⟨#[112]⟩, .slice (some ⟨wr.heap.size + 1, 0, none⟩) 2 2, .bool false, .string ⟨#[]⟩] 34)).alloc (by simp) (.cells ([atA, atA].flatMap enc_at).toArray 42)
          refine (tn_same kd ⟨#[112]⟩ (by simp [names7]) [atA, atA] (by simp [lists4]) false ⟨#[]⟩ (some ⟨wr.heap.size + 1, 0, none⟩) 2 _ hr (fits_small kd _ _ _ _ (by decide)) (by decide)).mono ?_
          rintro e w2 ⟨rfl, b2⟩
          have HB3 := Lib.hid (below_then HB2.out HB2.out.size (below_then hbz hbz.size b2))
          clear b2 hbz hr
          go_wp2_with fail
          exact ⟨⟨6, by omega, by go_num, HB3.out⟩, by simp [intOf]⟩
        · go_wp2_with fail
          have hr := rdA_lit (wr.alloc (.cells #[.int .i64 kd, .string ⟨#[112]⟩, .slice (some ⟨wr.heap.size + 1, 0, none⟩) 2 2, .bool false, .string ⟨#[]⟩] 34)) [atA, atBx]
          rw [show (wr.alloc (.cells #[.int .i64 kd, .string ⟨#[112]⟩, .slice (some ⟨wr.heap.size + 1, 0, none⟩) 2 2, .bool false, .string ⟨#[]⟩] 34)).heap.size = wr.heap.size + 1 by simp] at hr
          have hbz := ((Below.refl wr.heap.size wr).alloc (Nat.le_refl _) (.cells #[.int .i64 kd, .string ⟨#[112]⟩, .slice (some ⟨wr.heap.size + 1, 0, none⟩) 2 2, .bool false, .string ⟨#[]⟩] 34)).alloc (by simp) (.cells ([atA, atBx].flatMap enc_at).toArray 42)
          refine (tn_same kd ⟨#[112]⟩ (by simp [names7]) [atA, atBx] (by simp [lists4]) false ⟨#[]⟩ (some ⟨wr.heap.size + 1, 0, none⟩) 2 _ hr (fits_small kd _ _ _ _ (by decide)) (by decide)).mono ?_
          rintro e w2 ⟨rfl, b2⟩
          have HB3 := Lib.hid (below_then HB2.out HB2.out.size (below_then hbz hbz.size b2))
          clear b2 hbz hr
          go_wp2_with fail
          exact ⟨⟨7, by omega, by go_num, HB3.out⟩, by simp [intOf]⟩
        · go_wp2_with fail
          have hr : ∀ W : World, RdA W none 0 [] := fun W => RdA.nil' W
          have hbz := (Below.refl wr.heap.size wr).alloc (Nat.le_refl _) (.cells #[.int .i64 kd, .string ⟨#[]⟩, .slice none 0 0, .bool false, .string ⟨#[116]⟩] 34)
          refine (tn_same kd ⟨#[]⟩ (by simp [names7]) [] (by simp [lists4]) false ⟨#[116]⟩ none 0 _ (hr _) (fits_small kd _ _ _ _ (by decide)) (by decide)).mono ?_
          rintro e w2 ⟨rfl, b2⟩
          have HB3 := Lib.hid (below_then HB2.out HB2.out.size (below_then hbz hbz.size b2))
          clear b2 hbz hr
          go_wp2_with fail
          exact ⟨⟨8, by omega, by go_num, HB3.out⟩, by simp [intOf]⟩
        · go_wp2_with fail
          have hr : ∀ W : World, RdA W none 0 [] := fun W => RdA.nil' W
          have hbz := (Below.refl wr.heap.size wr).alloc (Nat.le_refl _) (.cells #[.int .i64 kd, .string ⟨#[112]⟩, .slice none 0 0, .bool false, .string ⟨#[116]⟩] 34)
          refine (tn_same kd ⟨#[112]⟩ (by simp [names7]) [] (by simp [lists4]) false ⟨#[116]⟩ none 0 _ (hr _) (fits_small kd _ _ _ _ (by decide)) (by decide)).mono ?_
          rintro e w2 ⟨rfl, b2⟩
          have HB3 := Lib.hid (below_then HB2.out HB2.out.size (below_then hbz hbz.size b2))
          clear b2 hbz hr
          go_wp2_with fail
          exact ⟨⟨9, by omega, by go_num, HB3.out⟩, by simp [intOf]⟩
        · go_wp2_with fail
          have hr : ∀ W : World, RdA W none 0 [] := fun W => RdA.nil' W
          have hbz := (Below.refl wr.heap.size wr).alloc (Nat.le_refl _) (.cells #[.int .i64 kd, .string ⟨#[112, 32, 113]⟩, .slice none 0 0, .bool false, .string ⟨#[]⟩] 34)
          refine (tn_same kd ⟨#[112, 32, 113]⟩ (by simp [names7]) [] (by simp [lists4]) false ⟨#[]⟩ none 0 _ (hr _) (fits_small kd _ _ _ _ (by decide)) (by decide)).mono ?_
          rintro e w2 ⟨rfl, b2⟩
          have HB3 := Lib.hid (below_then HB2.out HB2.out.size (below_then hbz hbz.size b2))
          clear b2 hbz hr
          go_wp2_with fail
          exact ⟨⟨10, by omega, by go_num, HB3.out⟩, by simp [intOf]⟩
        · go_wp2_with fail
          have hr := rdA_lit (wr.alloc (.cells #[.int .i64 kd, .string ⟨#[112]⟩, .slice (some ⟨wr.heap.size + 1, 0, none⟩) 1 1, .bool false, .string ⟨#[]⟩] 34)) [atE]
          rw [show (wr.alloc (.cells #[.int .i64 kd, .string ⟨#[112]⟩, .slice (some ⟨wr.heap.size + 1, 0, none⟩) 1 1, .bool false, .string ⟨#[]⟩] 34)).heap.size = wr.heap.size + 1 by simp] at hr
          have hbz := ((Below.refl wr.heap.size wr).alloc (Nat.le_refl _) (.cells #[.int .i64 kd, .string ⟨#[112]⟩, .slice (some ⟨wr.heap.size + 1, 0, none⟩) 1 1, .bool false, .string ⟨#[]⟩] 34)).alloc (by simp) (.cells ([atE].flatMap enc_at).toArray 42)
          refine (tn_same kd ⟨#[112]⟩ (by simp [names7]) [atE] (by simp [lists4]) false ⟨#[]⟩ (some ⟨wr.heap.size + 1, 0, none⟩) 1 _ hr (fits_small kd _ _ _ _ (by decide)) (by decide)).mono ?_
          rintro e w2 ⟨rfl, b2⟩
          have HB3 := Lib.hid (below_then HB2.out HB2.out.size (below_then hbz hbz.size b2))
          clear b2 hbz hr
          go_wp2_with fail
          exact ⟨⟨11, by omega, by go_num, HB3.out⟩, by simp [intOf]⟩
        · go_wp2_with fail
          have hr : ∀ W : World, RdA W none 0 [] := fun W => RdA.nil' W
          have hbz := (Below.refl wr.heap.size wr).alloc (Nat.le_refl _) (.cells #[.int .i64 kd, .string ⟨#[112, 47]⟩, .slice none 0 0, .bool false, .string ⟨#[]⟩] 34)
          refine (tn_same kd ⟨#[112, 47]⟩ (by simp [names7]) [] (by simp [lists4]) false ⟨#[]⟩ none 0 _ (hr _) (fits_small kd _ _ _ _ (by decide)) (by decide)).mono ?_
          rintro e w2 ⟨rfl, b2⟩
          have HB3 := Lib.hid (below_then HB2.out HB2.out.size (below_then hbz hbz.size b2))
          clear b2 hbz hr
          go_wp2_with fail
          exact ⟨⟨12, by omega, by go_num, HB3.out⟩, by simp [intOf]⟩
        · go_wp2_with fail
          exact ⟨⟨k + 1, by omega, by rw [HKD.out]; go_num, HB2.out⟩, by have := HKD.out; simp [intOf]; omega⟩
    · have d0 : decide ((k : Int) - 1 < 8) = false := decide_eq_false (by omega)
      have HJ := Lib.hid (fun W => join_any W none 0 0 [] ⟨rfl, ⟨rfl, by simp, fun h => absurd h (by omega)⟩, by simp⟩ (by omega) (by decide) (by simp))
      have HKn := Lib.hid (fun W => tok_known W)
      go_wp2_with (first
        | (go_at_call 16
           refine (HJ.out _).mono ?_
           rintro e w2 ⟨v, out, rfl, hv, ho, b2⟩
           have h0 : out = [] := List.map_eq_nil_iff.1 ho
           subst h0
           obtain ⟨A2, c2, rfl, _⟩ := hv.read
           have HB3 := Lib.hid (below_then HB.out HB.out.size b2)
           clear b2 hv ho)
        | (go_at_call 18
           refine (HKn.out _).mono ?_
           rintro e w3 ⟨rfl, b3⟩
           have HB4 := Lib.hid (below_then HB3.out HB3.out.size b3)
           clear b3))
      go_ret
      exact ⟨rfl, HB4.out⟩
end Go.Proofs.Ytjghkiphfpeocaa
