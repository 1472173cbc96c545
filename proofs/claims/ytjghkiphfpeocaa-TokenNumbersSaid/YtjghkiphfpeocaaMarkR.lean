/- What the document says of marks: the helpers, each with what it answers. -/
import Derived.Test.YtjghkiphfpeocaaPl
import Derived.Test.YtjghkiphfpeocaaMarkP
import Derived.Test.YtjghkiphfpeocaaScanR
import Derived.LoopN
import Derived.Deep.CutBlock
import Derived.Deep.DeepCutAuto
namespace Go.Proofs.Ytjghkiphfpeocaa
open Go.RowKit

theorem rletter_rune (c : UInt8) (w : World) :
    Calls Try.prog 45 #[.int .i32 (wrap32 (c.toNat : Int))] w fun e w' => e = .returned (.bool (letterB c)) ∧ w = w' := by
  rw [wrap_byte]
  have hl : Hid (letterB c = ((decide (97 ≤ c.toNat) && decide (c.toNat ≤ 122)) || (decide (65 ≤ c.toNat) && decide (c.toNat ≤ 90)))) := rfl
  generalize c.toNat = n at *
  go_enter Try.func45, Try.ntmps45
  go_wp2_with fail
  all_goals
    go_ret
    refine ⟨ret_bool ?_, rfl⟩
    rw [hl.out, Bool.eq_iff_iff]
    simp only [Bool.or_eq_true, Bool.and_eq_true, decide_eq_true_eq, Bool.false_eq_true, true_iff, false_iff]
    omega

section
variable (s : ByteArray) (k : Nat) (w : World)
theorem rfindN (sub : ByteArray) (hs : s.size ≤ 65536) (ht : sub.size ≤ 140737488355328) (hk : k ≤ s.size) :
    Calls Try.prog 52 #[.string s, .int .i64 (k : Int), .string sub] w fun e w' => e = .returned (.int .i64 (findL (B s) (B sub) k : Nat)) ∧ w = w' := by
  have := rfind_any s (k : Int) sub w (by omega) ht
  rw [clampN_nat k s.size hk] at this
  exact this
theorem rstartsN (sub : ByteArray) (hs : s.size ≤ 65536) (ht : sub.size ≤ 140737488355328) (hk : k ≤ s.size) :
    Calls Try.prog 44 #[.string s, .int .i64 (k : Int), .string sub] w fun e w' => e = .returned (.bool (startsL (B s) (B sub) k)) ∧ w = w' := by
  have := rstarts_any s sub (k : Int) w (by omega) ht
  rw [clampN_nat k s.size hk] at this
  exact this

set_option maxHeartbeats 1000000 in
theorem rbogus_any (hs : s.size ≤ 65536) (hk : k ≤ s.size) :
    Calls Try.prog 46 #[.string s, .int .i64 (k : Int)] w fun e w' => e = .returned (valM (rubbishM (B s) k)) ∧ Below w.heap.size w w' := by
  have hF := fun w => rfindN s k w ⟨#[62]⟩ hs (by decide) hk
  rw [show B ⟨#[62]⟩ = [62] from rfl] at hF
  have h1 := findL_ge (B s) [62] k (by rw [← size_B]; exact hk)
  have h2 := findL_le (B s) [62] k (by rw [← size_B]; exact hk)
  rw [← size_B] at h2
  have hbl : Hid (rubbishM (B s) k = (⟨5, [], pieceL (B s) k (findL (B s) [62] k)⟩, ((min (findL (B s) [62] k + 1) s.size : Nat) : Int), true)) := by show _ = _; unfold rubbishM behindL; rw [← size_B]
  have HF := Lib.hid hF
  clear hF
  generalize findL (B s) [62] k = f at *
  go_enter Try.func46, Try.ntmps46
  go_wp2_with fail
  refine (HF.out _).mono ?_
  rintro e w' ⟨rfl, rfl⟩
  go_wp2_with fail
  all_goals
    refine bodyPost_ret (v := .tuple #[.agg #[.int .i64 5, .string ⟨#[]⟩, .slice none 0 0, .bool false, .string (s.extract k f)], .int .i64 (min ((f : Int) + 1) (s.size : Int)), .bool true]) ?_ rfl
      ⟨ret_mark ?_, ((Below.refl _ _).alloc (Nat.le_refl _) _).alloc (by simp) _⟩
    · rw [show (min ((f : Int) + 1) (s.size : Int)) = _ from (by omega : _ = (if f < s.size then (f : Int) + 1 else (f : Int)))]
      simp [results, Try.results46, go_sem, *]
    · rw [hbl.out]
      simp [valM, tkM, S_piece, S_nil, min_cast]
end

theorem ends_cond (l x : List UInt8) : endsL l x = (decide (x.length ≤ l.length) && (l.drop (l.length - x.length) == x)) := by
  rw [Bool.eq_iff_iff, Bool.and_eq_true, decide_eq_true_eq, beq_iff_eq]
  unfold endsL
  rw [List.isSuffixOf_iff_suffix]
  constructor
  · intro h
    exact ⟨h.length_le, (List.suffix_iff_eq_drop.1 h).symm⟩
  · intro ⟨_, h⟩
    exact List.suffix_iff_eq_drop.2 h.symm
/-- An end of a text behind a place, as it is tried. -/
theorem ends_at (s x : ByteArray) (k : Nat) (hk : k ≤ s.size) : endsL ((B s).drop k) (B x) = (decide ((x.size : Int) ≤ (s.size : Int) - (k : Int)) && ((s.extract (s.size - x.size) s.size).toList == B x)) := by
  rw [ends_cond, List.length_drop, ← size_B, ← size_B, List.drop_drop]
  by_cases h : k + x.size ≤ s.size
  · rw [decide_eq_true (show x.size ≤ s.size - k by omega), decide_eq_true (show (x.size : Int) ≤ (s.size : Int) - (k : Int) by omega), Bool.true_and, Bool.true_and, show k + (s.size - k - x.size) = s.size - x.size by omega, ← B_drop, toList_B]
  · rw [decide_eq_false (show ¬ x.size ≤ s.size - k by omega), decide_eq_false (show ¬ (x.size : Int) ≤ (s.size : Int) - (k : Int) by omega), Bool.false_and, Bool.false_and]
theorem cut_piece (s : ByteArray) (k n : Nat) (_hk : k + n ≤ s.size) : s.extract k (s.size - n) = S (((B s).drop k).take (((B s).drop k).length - n)) := by
  rw [S_piece, List.length_drop, ← size_B]
  unfold pieceL
  rw [show s.size - n - k = s.size - k - n by omega]

section
variable (s : ByteArray) (k : Nat)
theorem cut_1 (hk : k + 3 ≤ s.size) (e : Int) (he : e = (s.size : Int) - 3) (h : endsL ((B s).drop k) [45, 45, 33] = true) : s.extract k e.toNat = S (cutEnd ((B s).drop k)) := by
  unfold cutEnd
  rw [if_pos h, ← cut_piece s k 3 hk, show e.toNat = s.size - 3 by omega]
theorem cut_2 (hk : k + 2 ≤ s.size) (e : Int) (he : e = (s.size : Int) - 2) (h : endsL ((B s).drop k) [45, 45, 33] = false) (h2 : endsL ((B s).drop k) [45, 45] = true) : s.extract k e.toNat = S (cutEnd ((B s).drop k)) := by
  unfold cutEnd
  rw [if_neg (by rw [h]; decide), if_pos h2, ← cut_piece s k 2 hk, show e.toNat = s.size - 2 by omega]
theorem cut_3 (hk : k + 1 ≤ s.size) (e : Int) (he : e = (s.size : Int) - 1) (h : endsL ((B s).drop k) [45, 45, 33] = false) (h2 : endsL ((B s).drop k) [45, 45] = false) (h3 : endsL ((B s).drop k) [45] = true) : s.extract k e.toNat = S (cutEnd ((B s).drop k)) := by
  unfold cutEnd
  rw [if_neg (by rw [h]; decide), if_neg (by rw [h2]; decide), if_pos h3, ← cut_piece s k 1 hk, show e.toNat = s.size - 1 by omega]
theorem cut_0 (e : Int) (he : e = (s.size : Int)) (h : endsL ((B s).drop k) [45, 45, 33] = false) (h2 : endsL ((B s).drop k) [45, 45] = false) (h3 : endsL ((B s).drop k) [45] = false) : s.extract k e.toNat = S (cutEnd ((B s).drop k)) := by
  unfold cutEnd
  rw [if_neg (by rw [h]; decide), if_neg (by rw [h2]; decide), if_neg (by rw [h3]; decide), show e.toNat = s.size by omega]
  exact S_drop s k
end
theorem find_none (s : ByteArray) (x : List UInt8) (k : Nat) (hk : k ≤ s.size) (hx : x ≠ []) (h : ∀ m, k ≤ m → m < s.size → Lib.occAt (B s) x m = false) : findL (B s) x k = s.size := by
  rw [findL_none (B s) x k (by rw [← size_B]; exact hk) (fun m a b => ?_), ← size_B]
  rw [← size_B] at b
  by_cases e : m < s.size
  · exact h m a e
  · unfold Lib.occAt
    rw [List.drop_eq_nil_of_le (by rw [← size_B]; omega)]
    cases x with
    | nil => exact absurd rfl hx
    | cons c y => rfl
theorem find_past (s : ByteArray) (_x y : List UInt8) (k j : Nat) (hkj : k ≤ j) (hj : j < s.size) (h : ∀ m, k ≤ m → m < j → Lib.occAt (B s) y m = false) (hn : Lib.occAt (B s) y j = false) : j < findL (B s) y k := by
  obtain ⟨h1, _⟩ := findL_cases (B s) y k (by rw [← size_B]; omega)
  have h2 := findL_ge (B s) y k (by rw [← size_B]; omega)
  rcases h1 with h1 | h1
  · rcases Nat.lt_trichotomy (findL (B s) y k) j with c | c | c
    · rw [h _ h2 c] at h1; exact absurd h1 (by decide)
    · rw [c, hn] at h1; exact absurd h1 (by decide)
    · exact c
  · rw [h1, ← size_B]; exact hj

set_option maxHeartbeats 2000000 in
set_option maxRecDepth 100000 in
theorem rcomment_any (s : ByteArray) (k : Nat) (w : World) (hs : s.size ≤ 65536) (hk : k ≤ s.size) :
    Calls Try.prog 47 #[.string s, .int .i64 (k : Int)] w fun e w' => e = .returned (valM (commentM (B s) k)) ∧ Below w.heap.size w w' := by
  have H1 := Lib.hid (fun w => rstartsN s k w ⟨#[62]⟩ hs (by decide) hk)
  have H2 := Lib.hid (fun w => rstartsN s k w ⟨#[45, 62]⟩ hs (by decide) hk)
  rw [show B ⟨#[62]⟩ = [62] from rfl] at H1
  rw [show B ⟨#[45, 62]⟩ = [45, 62] from rfl] at H2
  have hcm : Hid (commentM (B s) k = if startsL (B s) [62] k = true then (⟨5, [], []⟩, ((k + 1 : Nat) : Int), true)
    else if startsL (B s) [45, 62] k = true then (⟨5, [], []⟩, ((k + 2 : Nat) : Int), true)
    else if findL (B s) endA k < findL (B s) endB k then (⟨5, [], pieceL (B s) k (findL (B s) endA k)⟩, ((findL (B s) endA k + 3 : Nat) : Int), true)
    else if findL (B s) endB k < findL (B s) endA k then (⟨5, [], pieceL (B s) k (findL (B s) endB k)⟩, ((findL (B s) endB k + 4 : Nat) : Int), true)
    else (⟨5, [], cutEnd ((B s).drop k)⟩, ((B s).length : Int), true)) := rfl
  have s1 : IntKind.i64.wrap ((k : Int) + 1) = (k : Int) + 1 := IntWalk.i64_in _ (by omega)
  have s2 : IntKind.i64.wrap ((k : Int) + 2) = (k : Int) + 2 := IntWalk.i64_in _ (by omega)
  go_enter Try.func47, Try.ntmps47
  go_wp2_with fail
  refine (H1.out _).mono ?_
  rintro e w' ⟨rfl, rfl⟩
  cases hb1 : startsL (B s) [62] k
  rotate_left
  · have HQ1 := Lib.hid hb1
    clear hb1
    go_wp2_with fail
    refine bodyPost_ret (v := .tuple #[.agg #[.int .i64 5, .string ⟨#[]⟩, .slice none 0 0, .bool false, .string ⟨#[]⟩], .int .i64 ((k : Int) + 1), .bool true]) (by simp [results, Try.results47, go_sem]) rfl
      ⟨ret_mark ?_, (Below.refl _ _).alloc (Nat.le_refl _) _⟩
    rw [hcm.out, if_pos HQ1.out]
    simp [valM, tkM, S_nil]
  have HQ1 := Lib.hid hb1
  clear hb1
  go_wp2_with fail
  refine (H2.out _).mono ?_
  rintro e w' ⟨rfl, rfl⟩
  cases hb2 : startsL (B s) [45, 62] k
  rotate_left
  · have HQ2 := Lib.hid hb2
    clear hb2
    go_wp2_with fail
    refine bodyPost_ret (v := .tuple #[.agg #[.int .i64 5, .string ⟨#[]⟩, .slice none 0 0, .bool false, .string ⟨#[]⟩], .int .i64 ((k : Int) + 2), .bool true]) (by simp [results, Try.results47, go_sem]) rfl
      ⟨ret_mark ?_, (Below.refl _ _).alloc (Nat.le_refl _) _⟩
    rw [hcm.out, if_neg (by rw [HQ1.out]; decide), if_pos HQ2.out]
    simp [valM, tkM, S_nil]
  have hcm2 := hcm.out
  rw [if_neg (by rw [HQ1.out]; decide), if_neg (by rw [hb2]; decide)] at hcm2
  have HCM := Lib.hid hcm2
  clear hcm2 hcm hb2 HQ1
  go_wp2_with fail
  go_loop [7] (fun i => ∃ j : Nat, k ≤ j ∧ j ≤ s.size ∧ i = .int .i64 j ∧ (∀ m, k ≤ m → m < j → Lib.occAt (B s) endA m = false ∧ Lib.occAt (B s) endB m = false)) (fun i => s.size - (intOf i).toNat)
  case atStart => exact ⟨k, Nat.le_refl _, hk, rfl, fun m h1 h2 => absurd h2 (by omega)⟩
  case round =>
    obtain ⟨j, hj1, hj2, rfl, he⟩ := hrel
    have HE := Lib.hid he
    clear he
    by_cases hlt : j < s.size
    · have HA := Lib.hid (fun w => rstartsN s j w ⟨#[45, 45, 62]⟩ hs (by decide) hj2)
      have HB := Lib.hid (fun w => rstartsN s j w ⟨#[45, 45, 33, 62]⟩ hs (by decide) hj2)
      rw [show B ⟨#[45, 45, 62]⟩ = endA from rfl] at HA
      rw [show B ⟨#[45, 45, 33, 62]⟩ = endB from rfl] at HB
      go_wp2_with fail
      refine (HA.out _).mono ?_
      rintro e w' ⟨rfl, rfl⟩
      cases hpa : startsL (B s) endA j
      rotate_left
      · have hf := findL_first (B s) endA k j hj1 (by rw [← size_B]; exact hj2) hpa (fun m a b => (HE.out m a b).1)
        have hg : j < findL (B s) endB k := find_past s endA endB k j hj1 hlt (fun m a b => (HE.out m a b).2) (occ_not_b _ _ hpa)
        have hcc := HCM.out
        rw [if_pos (by rw [hf]; exact hg), hf] at hcc
        have HCC := Lib.hid hcc
        clear hcc hf hg
        go_wp2_with fail
        refine bodyPost_ret (v := .tuple #[.agg #[.int .i64 5, .string ⟨#[]⟩, .slice none 0 0, .bool false, .string (s.extract k j)], .int .i64 ((j : Int) + 3), .bool true]) (by simp [results, Try.results47, go_sem]) rfl
          ⟨ret_mark ?_, (Below.refl _ _).alloc (Nat.le_refl _) _⟩
        rw [HCC.out]
        simp [valM, tkM, S_nil, S_piece]
      · go_wp2_with fail
        refine (HB.out _).mono ?_
        rintro e w' ⟨rfl, rfl⟩
        cases hpb : startsL (B s) endB j
        rotate_left
        · have hf := findL_first (B s) endB k j hj1 (by rw [← size_B]; exact hj2) hpb (fun m a b => (HE.out m a b).2)
          have hg : j < findL (B s) endA k := find_past s endB endA k j hj1 hlt (fun m a b => (HE.out m a b).1) hpa
          have hcc := HCM.out
          rw [if_neg (by rw [hf]; omega), if_pos (by rw [hf]; exact hg), hf] at hcc
          have HCC := Lib.hid hcc
          clear hcc hf hg
          go_wp2_with fail
          refine bodyPost_ret (v := .tuple #[.agg #[.int .i64 5, .string ⟨#[]⟩, .slice none 0 0, .bool false, .string (s.extract k j)], .int .i64 ((j : Int) + 4), .bool true]) (by simp [results, Try.results47, go_sem]) rfl
            ⟨ret_mark ?_, (Below.refl _ _).alloc (Nat.le_refl _) _⟩
          rw [HCC.out]
          simp [valM, tkM, S_nil, S_piece]
        · go_wp2_with fail
          refine ⟨⟨j + 1, by omega, by omega, by go_num, fun m h1 h2 => ?_⟩, by simp [intOf]; omega⟩
          by_cases e : m = j
          · subst e; exact ⟨hpa, hpb⟩
          · exact HE.out m h1 (by omega)
    · have hjs : j = s.size := by omega
      subst hjs
      have hno : ∀ x : List UInt8, x ≠ [] → (∀ m, k ≤ m → m < s.size → Lib.occAt (B s) x m = false) → findL (B s) x k = s.size := fun x hx h => find_none s x k hk hx h
      have hcc := HCM.out
      rw [hno endA (by decide) (fun m a b => (HE.out m a b).1), hno endB (by decide) (fun m a b => (HE.out m a b).2), if_neg (Nat.lt_irrefl _), if_neg (Nat.lt_irrefl _), ← size_B] at hcc
      have HCC := Lib.hid hcc
      have E1 := Lib.hid (ends_at s ⟨#[45, 45, 33]⟩ k hk)
      have E2 := Lib.hid (ends_at s ⟨#[45, 45]⟩ k hk)
      have E3 := Lib.hid (ends_at s ⟨#[45]⟩ k hk)
      rw [show B ⟨#[45, 45, 33]⟩ = [45, 45, 33] from rfl, show (⟨#[45, 45, 33]⟩ : ByteArray).size = 3 from rfl] at E1
      rw [show B ⟨#[45, 45]⟩ = [45, 45] from rfl, show (⟨#[45, 45]⟩ : ByteArray).size = 2 from rfl] at E2
      rw [show B ⟨#[45]⟩ = [45] from rfl, show (⟨#[45]⟩ : ByteArray).size = 1 from rfl] at E3
      have C1 := Lib.hid (cut_1 s k)
      have C2 := Lib.hid (cut_2 s k)
      have C3 := Lib.hid (cut_3 s k)
      have C0 := Lib.hid (cut_0 s k)
      have hN := Blk.new (w.alloc (.cells #[.int .i64 0, .string ⟨#[]⟩, .slice none 0 0, .bool false, .string ⟨#[]⟩] 34)) 9 #[.string ⟨#[45, 45, 33]⟩, .string ⟨#[45, 45]⟩, .string ⟨#[45]⟩] (0, 0)
      have hb := ((Below.refl w.heap.size w).alloc (Nat.le_refl _) (.cells #[.int .i64 0, .string ⟨#[]⟩, .slice none 0 0, .bool false, .string ⟨#[]⟩] 34)).alloc (by simp) (.cells #[.string ⟨#[45, 45, 33]⟩, .string ⟨#[45, 45]⟩, .string ⟨#[45]⟩] 9)
      have hZ := (Blk.new w 34 #[.int .i64 0, .string ⟨#[]⟩, .slice none 0 0, .bool false, .string ⟨#[]⟩] (0, 0)).keep ((Below.refl _ _).alloc (Nat.le_refl _) (.cells #[.string ⟨#[45, 45, 33]⟩, .string ⟨#[45, 45]⟩, .string ⟨#[45]⟩] 9))
      clear hcc hno HCM HE
      go_upto_block 2 with (fail)
      generalize (w.alloc (.cells #[.int .i64 0, .string ⟨#[]⟩, .slice none 0 0, .bool false, .string ⟨#[]⟩] 34)).alloc (.cells #[.string ⟨#[45, 45, 33]⟩, .string ⟨#[45, 45]⟩, .string ⟨#[45]⟩] 9) = w1 at *
      have m0 : w1.cell? ⟨w.heap.size + 1, 0, none⟩ = some (.string ⟨#[45, 45, 33]⟩) := by have := hN.cell 0; simpa using this
      have m1 : w1.cell? ⟨w.heap.size + 1, 1, none⟩ = some (.string ⟨#[45, 45]⟩) := by have := hN.cell 1; simpa using this
      have m2 : w1.cell? ⟨w.heap.size + 1, 2, none⟩ = some (.string ⟨#[45]⟩) := by have := hN.cell 2; simpa using this
      have HB := Lib.hid hb
      have HZ := Lib.hid hZ
      clear hN hb hZ
      go_cut [8] (fun s8 wx => ∃ e : Int, s8 = .int .i64 e ∧ (k : Int) ≤ e ∧ e ≤ (s.size : Int) ∧ s.extract k e.toNat = S (cutEnd ((B s).drop k)) ∧ wx = w1)
      case first =>
        go_wp2_with fail
        refine wp_loop_rounds 4 ?_
        rw [rounds_succ]
        go_wp2_with fail
        all_goals rw [rounds_succ]
        all_goals go_wp2_with fail
        all_goals rw [rounds_succ]
        all_goals go_wp2_with fail
        all_goals rw [rounds_succ]
        all_goals go_wp2_with fail
        all_goals go_meet
        all_goals refine ⟨_, rfl, by omega, by omega, ?_, rfl⟩
        all_goals first
          | exact C1.out (by omega) _ (by omega) (by rw [E1.out, Bool.and_eq_true]; exact ⟨decide_eq_true (by omega), by assumption⟩)
          | exact C2.out (by omega) _ (by omega) (by rw [E1.out, Bool.and_eq_false_iff]; first | exact .inl (decide_eq_false (by omega)) | exact .inr (by assumption)) (by rw [E2.out, Bool.and_eq_true]; exact ⟨decide_eq_true (by omega), by assumption⟩)
          | exact C3.out (by omega) _ (by omega) (by rw [E1.out, Bool.and_eq_false_iff]; first | exact .inl (decide_eq_false (by omega)) | exact .inr (by assumption)) (by rw [E2.out, Bool.and_eq_false_iff]; first | exact .inl (decide_eq_false (by omega)) | exact .inr (by assumption)) (by rw [E3.out, Bool.and_eq_true]; exact ⟨decide_eq_true (by omega), by assumption⟩)
          | exact C0.out _ (by omega) (by rw [E1.out, Bool.and_eq_false_iff]; first | exact .inl (decide_eq_false (by omega)) | exact .inr (by assumption)) (by rw [E2.out, Bool.and_eq_false_iff]; first | exact .inl (decide_eq_false (by omega)) | exact .inr (by assumption)) (by rw [E3.out, Bool.and_eq_false_iff]; first | exact .inl (decide_eq_false (by omega)) | exact .inr (by assumption))
      case rest =>
        obtain ⟨e, rfl, he1, he2, he3, rfl⟩ := hcut
        obtain ⟨e, rfl⟩ := Int.eq_ofNat_of_zero_le (show 0 ≤ e by omega)
        rw [Int.toNat_natCast] at he3
        obtain ⟨z0, z1, z2, z3, z4, f0, f1, f2, f3, f4⟩ := var_tok HZ.out
        have HE3 := Lib.hid he3
        clear he3
        go_wp2_with fail
        refine bodyPost_ret (v := .tuple #[.agg #[.int .i64 5, .string ⟨#[]⟩, .slice none 0 0, .bool false, .string (s.extract k e)], .int .i64 (s.size : Int), .bool true]) (by simp [results, Try.results47, go_sem, z0, z1, z2, z3, z4]) rfl
          ⟨ret_mark ?_, set5_below HB.out (Nat.le_refl _) _ _ _ _ _⟩
        rw [HCC.out, HE3.out]
        simp [valM, tkM, S_nil]
end Go.Proofs.Ytjghkiphfpeocaa
