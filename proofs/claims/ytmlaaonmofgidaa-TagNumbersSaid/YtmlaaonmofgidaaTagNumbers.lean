/- TagNumbers, walked. -/
import Derived.Test.YtmlaaonmofgidaaTagSame
namespace Go.Proofs.Ytmlaaonmofgidaa
open Go.RowKit

def tags16 : List ByteArray := [⟨#[60, 65, 32, 98, 61, 49, 32, 66, 61, 50, 32, 99, 47, 62, 120]⟩, ⟨#[60, 47, 112, 32, 120, 61, 39, 62, 39, 62]⟩, ⟨#[60, 112, 32, 97, 61, 34, 38, 97, 109, 112, 59, 34, 32, 98, 61, 38, 108, 116, 32, 99, 32, 61, 32, 100, 32, 101, 61, 32, 62]⟩, ⟨#[60, 97, 32, 61, 61, 120, 62]⟩, ⟨#[60, 97, 32, 47, 98, 32, 47, 32, 99, 62]⟩, ⟨#[60, 97, 9, 98, 10, 61, 12, 39, 120, 39, 121, 62]⟩, ⟨#[60, 97, 32, 98, 61, 62]⟩, ⟨#[60, 97, 32, 98, 61, 39]⟩, ⟨#[60, 97, 32, 98, 61, 34, 120]⟩, ⟨#[60, 97, 195, 169, 47, 62]⟩, ⟨#[60, 97, 32, 98, 61, 99, 47, 62]⟩, ⟨#[60, 32, 97, 62]⟩, ⟨#[60, 47, 32, 97, 62]⟩, ⟨#[60, 49, 62]⟩, ⟨#[60, 47, 62]⟩, ⟨#[60, 97, 32, 98, 61, 49, 47, 32, 99, 61, 50, 62]⟩]
theorem tags16_at (i : Nat) (hi : i < 16) : ∃ x, tags16[i]? = some x ∧ x.size ≤ 40 :=
  ⟨_, List.getElem?_eq_getElem (show i < tags16.length from hi), (by decide : ∀ x ∈ tags16, x.size ≤ 40) _ (List.getElem_mem _)⟩
/-- Texts in memory. -/
def LitT (w : World) (b : Nat) (l : List ByteArray) : Prop := ∀ j x, l[j]? = some x → w.cell? ⟨b, j, none⟩ = some (.string x)
theorem litT_new (w : World) (e : TypeId) (l : List ByteArray) : LitT (w.alloc (.cells (arrP l) e)) w.heap.size l := fun j x hx => by
  rw [(Blk.new w e (arrP l) (0, 0)).cell j]
  exact arrP_at l hx
theorem LitT.keep {w w' : World} {b : Nat} {l : List ByteArray} (h : LitT w b l) (hb : Below w.heap.size w w') : LitT w' b l := fun j x hx => cell_keep hb (h j x hx)

set_option maxHeartbeats 8000000 in
set_option maxRecDepth 100000 in
theorem walk_TagNumbers (w : World) (hL : Lax w) :
    Calls Try.prog 3 #[] w fun e w' => e = .returned (.bool true) ∧ Below w.heap.size w w' := by
  have HL := Lib.hid hL
  clear hL
  have hal : Below w.heap.size w (w.alloc (.cells (arrP tags16) 9)) := (Below.refl _ _).alloc (Nat.le_refl _) _
  have HLI := Lib.hid (litT_new w 9 tags16)
  have HBI := Lib.hid hal
  clear hal
  go_enter Try.func3, Try.ntmps3
  go_wp2_with (refine wpList_buildAt (o := ⟨_, .buildSlice _ _ _, _, _, _, _⟩) rfl _ 9 _ _ rfl (arrP tags16) 1 (.string ⟨#[]⟩) Try.underlying22 (by kernel_rfl) (by decide) (by decide) (by kernel_rfl) ?_)
  go_loopw [6] (fun jv wr => ∃ j : Nat, j ≤ 16 ∧ jv = .int .i64 j ∧ LitT wr w.heap.size tags16 ∧ Below w.heap.size w wr) (fun jv _ => 16 - (intOf jv).toNat)
  case atStart => exact ⟨0, by omega, rfl, HLI.out, HBI.out⟩
  case round =>
    obtain ⟨j, hj, rfl, hl2, hb2⟩ := hrel
    obtain ⟨wo, rfl⟩ : ∃ wo : World, wo = wr := ⟨_, rfl⟩
    have HL2 := Lib.hid hl2
    have HB2 := Lib.hid hb2
    clear hl2 hb2 HLI HBI
    by_cases hlt2 : j < 16
    · have d1 : decide ((j : Int) < 16) = true := decide_eq_true (by omega)
      obtain ⟨s, hb, hbz⟩ := tags16_at j hlt2
      have k1 := HL2.out j s hb
      have s2 : IntKind.i64.wrap ((j : Int) + 1) = (j : Int) + 1 := IntWalk.i64_in _ (by omega)
      clear hb
      go_wp2_with fail
      go_loopw [3] (fun av wr => ∃ a : Nat, a ≤ s.size + 1 ∧ av = .int .i64 a ∧ LitT wr w.heap.size tags16 ∧ Below w.heap.size w wr) (fun av _ => s.size + 1 - (intOf av).toNat)
      case atStart => exact ⟨0, by omega, rfl, HL2.out, HB2.out⟩
      case round =>
        obtain ⟨a, ha, rfl, hl3, hb3⟩ := hrel
        have HL3 := Lib.hid hl3
        have HB3 := Lib.hid hb3
        clear hl3 hb3
        by_cases hlt3 : a ≤ s.size
        · have d2 : decide ((a : Int) ≤ (s.size : Int)) = true := decide_eq_true (by omega)
          have s3 : IntKind.i64.wrap ((a : Int) + 1) = (a : Int) + 1 := IntWalk.i64_in _ (by omega)
          have hex := size_extract_le s 0 a
          have S1 := Lib.hid (fun w' (h : Below w.heap.size w w') => tagsame_any (s.extract 0 a) 0 w' (by omega) (HL.out.below h))
          have S2 := Lib.hid (fun w' (h : Below w.heap.size w w') => tagsame_any (⟨#[120]⟩ ++ s.extract 0 a) 1 w' (by rw [ByteArray.size_append]; show 1 + _ ≤ 65536; omega) (HL.out.below h))
          have S3 := Lib.hid (fun w' (h : Below w.heap.size w w') => tagsame_any s (a : Int) w' (by omega) (HL.out.below h))
          have hsum : (⟨#[120]⟩ : ByteArray).size + (s.extract 0 a).size ≤ 9223372036854775807 := by show 1 + _ ≤ _; omega
          go_wp2_with fail
          refine (S1.out _ HB3.out).mono ?_
          rintro e w4 ⟨rfl, b4⟩
          have HL4 := Lib.hid (HL3.out.keep b4)
          have HB4 := Lib.hid (below_then HB3.out HB3.out.size b4)
          clear b4
          go_wp2_with fail
          refine (S2.out _ HB4.out).mono ?_
          rintro e w5 ⟨rfl, b5⟩
          have HL5 := Lib.hid (HL4.out.keep b5)
          have HB5 := Lib.hid (below_then HB4.out HB4.out.size b5)
          clear b5
          go_wp2_with fail
          refine (S3.out _ HB5.out).mono ?_
          rintro e w6 ⟨rfl, b6⟩
          have HL6 := Lib.hid (HL5.out.keep b6)
          have HB6 := Lib.hid (below_then HB5.out HB5.out.size b6)
          clear b6
          go_wp2_with fail
          exact ⟨⟨a + 1, by omega, by go_num, HL6.out, HB6.out⟩, by simp [intOf]; omega⟩
        · have d2 : decide ((a : Int) ≤ (s.size : Int)) = false := decide_eq_false (by omega)
          go_wp2_with fail
          exact ⟨⟨j + 1, by omega, by go_num, HL3.out, HB3.out⟩, by simp [intOf]; omega⟩
    · have d1 : decide ((j : Int) < 16) = false := decide_eq_false (by omega)
      have S1 := Lib.hid (fun at_ w' (h : Below w.heap.size w w') => tagsame_any ⟨#[60, 97, 62]⟩ at_ w' (by decide) (HL.out.below h))
      have S2 := Lib.hid (fun w' (h : Below w.heap.size w w') => tagsame_any ⟨#[]⟩ 0 w' (by decide) (HL.out.below h))
      go_wp2_with fail
      refine (S1.out _ _ HB2.out).mono ?_
      rintro e w4 ⟨rfl, b4⟩
      have HB4 := Lib.hid (below_then HB2.out HB2.out.size b4)
      clear b4
      go_wp2_with fail
      refine (S1.out _ _ HB4.out).mono ?_
      rintro e w5 ⟨rfl, b5⟩
      have HB5 := Lib.hid (below_then HB4.out HB4.out.size b5)
      clear b5
      go_wp2_with fail
      refine (S2.out _ HB5.out).mono ?_
      rintro e w6 ⟨rfl, b6⟩
      have HB6 := Lib.hid (below_then HB5.out HB5.out.size b6)
      clear b6
      go_wp2_with fail
      refine (tagknown_any _ (HL.out.below HB6.out)).mono ?_
      rintro e w7 ⟨rfl, b7⟩
      have HB7 := Lib.hid (below_then HB6.out HB6.out.size b7)
      clear b7
      go_wp2_with fail
      go_ret
      exact ⟨rfl, HB7.out⟩
end Go.Proofs.Ytmlaaonmofgidaa
