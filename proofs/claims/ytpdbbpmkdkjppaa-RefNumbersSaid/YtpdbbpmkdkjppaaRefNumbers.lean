/- RefNumbers, walked. -/
import Derived.Test.YtpdbbpmkdkjppaaRefSame
import Derived.Test.YtpdbbpmkdkjppaaLit
namespace Go.Proofs.Ytpdbbpmkdkjppaa
open Go.RowKit

def behind9 : List ByteArray := [⟨#[]⟩, ⟨#[59]⟩, ⟨#[61]⟩, ⟨#[97]⟩, ⟨#[90]⟩, ⟨#[53]⟩, ⟨#[32]⟩, ⟨#[38]⟩, ⟨#[195, 169]⟩]
def refs20 : List ByteArray := [⟨#[38]⟩, ⟨#[38, 35]⟩, ⟨#[38, 35, 120]⟩, ⟨#[38, 35, 88]⟩, ⟨#[38, 35, 59]⟩, ⟨#[38, 35, 120, 59]⟩, ⟨#[38, 35, 48, 59]⟩, ⟨#[38, 35, 48, 48, 48, 54, 53]⟩, ⟨#[38, 35, 120, 49, 49, 48, 48, 48, 48, 59]⟩, ⟨#[38, 35, 49, 49, 49, 52, 49, 49, 49, 59]⟩, ⟨#[38, 35, 57, 57, 57, 57, 57, 57, 57, 57, 57, 57, 57, 57, 57, 57, 57, 57, 57, 57, 57, 57, 57, 57, 57, 59]⟩, ⟨#[38, 35, 120, 102, 102, 102, 102, 102, 102, 102, 102, 102, 102, 102, 102, 102, 102, 102, 102, 102, 102, 102, 102, 59]⟩, ⟨#[38, 35, 49, 50, 56, 59]⟩, ⟨#[38, 35, 120, 57, 70]⟩, ⟨#[38, 35, 120, 68, 56, 48, 48, 59]⟩, ⟨#[38, 35, 120, 52, 49, 103]⟩, ⟨#[38, 35, 49, 50, 97]⟩, ⟨#[38, 120]⟩, ⟨#[38, 49]⟩, ⟨#[]⟩]
def arrS (l : List ByteArray) : Array Value := (strs l).toArray
theorem behind9_at (i : Nat) (hi : i < 9) : ∃ x, behind9[i]? = some x ∧ x.size ≤ 40 :=
  ⟨_, List.getElem?_eq_getElem (show i < behind9.length from hi), (by decide : ∀ x ∈ behind9, x.size ≤ 40) _ (List.getElem_mem _)⟩
theorem refs20_at (i : Nat) (hi : i < 20) : ∃ x, refs20[i]? = some x ∧ x.size ≤ 40 :=
  ⟨_, List.getElem?_eq_getElem (show i < refs20.length from hi), (by decide : ∀ x ∈ refs20, x.size ≤ 40) _ (List.getElem_mem _)⟩
/-- Texts in memory. -/
def LitAt (w : World) (b : Nat) (l : List ByteArray) : Prop := ∀ j x, l[j]? = some x → w.cell? ⟨b, j, none⟩ = some (.string x)
theorem lit_new (w : World) (e : TypeId) (l : List ByteArray) : LitAt (w.alloc (.cells (arrS l) e)) w.heap.size l := fun j x hx => by
  rw [(Blk.new w e (arrS l) (0, 0)).cell j]
  unfold arrS strs
  rw [List.getElem?_toArray, List.getElem?_map, hx]
  rfl
theorem LitAt.keep {w w' : World} {b : Nat} {l : List ByteArray} (h : LitAt w b l) (hb : Below w.heap.size w w') : LitAt w' b l := fun j x hx => cell_keep hb (h j x hx)
/-- The names in memory. -/
def NamesAt (w : World) (ad : Addr) : Prop := ∀ j x, tabT[j]? = some x → w.cell? (ad.add j) = some (.string x.1)
theorem NamesAt.keep {w w' : World} {ad : Addr} (h : NamesAt w ad) (hb : Below w.heap.size w w') : NamesAt w' ad := fun j x hx => cell_keep hb (h j x hx)

set_option maxHeartbeats 8000000 in
set_option maxRecDepth 100000 in
theorem walk_RefNumbers (w : World) (hL : Lax w) :
    Calls Try.prog 3 #[] w fun e w' => e = .returned (.bool true) ∧ Below w.heap.size w w' := by
  have HL := Lib.hid hL
  clear hL
  go_enter Try.func3, Try.ntmps3
  go_wp2_with fail
  refine (allnames_any _).mono ?_
  rintro e w1 ⟨ad, c, rfl, hc, hb1⟩
  have HC : Hid (NamesAt w1 ad) := hc
  have HB1 := Lib.hid hb1
  clear hc hb1
  go_wp2_with fail
  go_loopw [2] (fun iv wr => ∃ i : Nat, i ≤ 51 ∧ iv = .int .i64 i ∧ NamesAt wr ad ∧ Below w.heap.size w wr) (fun iv _ => 51 - (intOf iv).toNat)
  case atStart => exact ⟨0, by omega, rfl, HC.out, HB1.out⟩
  case round =>
    obtain ⟨i, hi, rfl, hn, hb⟩ := hrel
    obtain ⟨wo, rfl⟩ : ∃ wo : World, wo = wr := ⟨_, rfl⟩
    have HN := Lib.hid hn
    have HB := Lib.hid hb
    clear hn hb HC HB1
    by_cases hlt : i < 51
    · have d0 : decide ((i : Int) < 51) = true := decide_eq_true (by omega)
      obtain ⟨x, hx⟩ : ∃ x, tabT[i]? = some x := ⟨_, List.getElem?_eq_getElem (show i < tabT.length from hlt)⟩
      have hxz := (tab_facts x (List.mem_of_getElem? hx)).2.1
      have HX := Lib.hid hx
      clear hx
      obtain ⟨x1, x2⟩ := x
      simp only at hxz
      have s1 : IntKind.i64.wrap ((i : Int) + 1) = (i : Int) + 1 := IntWalk.i64_in _ (by omega)
      have hal : Below wo.heap.size wo (wo.alloc (.cells (arrS behind9) 9)) := (Below.refl _ _).alloc (Nat.le_refl _) _
      have HLI := Lib.hid (lit_new wo 9 behind9)
      have HNI := Lib.hid (HN.out.keep hal)
      have HBI := Lib.hid (below_then HB.out HB.out.size hal)
      clear hal
      go_wp2_with (refine wpList_buildAt (o := ⟨_, .buildSlice _ _ _, _, _, _, _⟩) rfl _ 9 _ _ rfl (arrS behind9) 1 (.string ⟨#[]⟩) Try.underlying22 (by kernel_rfl) (by decide) (by decide) (by kernel_rfl) ?_)
      go_loopw [17] (fun jv wr => ∃ j : Nat, j ≤ 9 ∧ jv = .int .i64 j ∧ LitAt wr wo.heap.size behind9 ∧ NamesAt wr ad ∧ Below w.heap.size w wr) (fun jv _ => 9 - (intOf jv).toNat)
      case atStart => exact ⟨0, by omega, rfl, HLI.out, HNI.out, HBI.out⟩
      case round =>
        obtain ⟨j, hj, rfl, hl2, hn2, hb2⟩ := hrel
        have HL2 := Lib.hid hl2
        have HN2 := Lib.hid hn2
        have HB2 := Lib.hid hb2
        clear hl2 hn2 hb2 HLI HNI HBI
        by_cases hlt2 : j < 9
        · have d1 : decide ((j : Int) < 9) = true := decide_eq_true (by omega)
          obtain ⟨b, hb, hbz⟩ := behind9_at j hlt2
          have k1 := HL2.out j b hb
          have k2 : wr.cell? (ad.add i) = some (.string x1) := HN2.out i _ HX.out
          have k3 := fun W (h : Below wr.heap.size wr W) => (HN2.out.keep h) i _ HX.out
          have HK3 := Lib.hid k3
          have s2 : IntKind.i64.wrap ((j : Int) + 1) = (j : Int) + 1 := IntWalk.i64_in _ (by omega)
          have z1 : (⟨#[38]⟩ ++ x1 : ByteArray).size = 1 + x1.size := by rw [ByteArray.size_append]; rfl
          have z2 : (⟨#[120, 38]⟩ ++ x1 : ByteArray).size = 2 + x1.size := by rw [ByteArray.size_append]; rfl
          have p1 : (⟨#[38]⟩ : ByteArray).size + x1.size ≤ 9223372036854775807 := by show 1 + _ ≤ _; omega
          have p2 : (⟨#[38]⟩ ++ x1 : ByteArray).size + b.size ≤ 9223372036854775807 := by rw [z1]; omega
          have p3 : (⟨#[120, 38]⟩ : ByteArray).size + x1.size ≤ 9223372036854775807 := by show 2 + _ ≤ _; omega
          have p4 : (⟨#[120, 38]⟩ ++ x1 : ByteArray).size + b.size ≤ 9223372036854775807 := by rw [z2]; omega
          have S1 := Lib.hid (fun w' (h : Below w.heap.size w w') => refsame_any (⟨#[38]⟩ ++ x1 ++ b) 0 true w' (by rw [ByteArray.size_append, z1]; omega) (HL.out.below h))
          have S2 := Lib.hid (fun w' (h : Below w.heap.size w w') => refsame_any (⟨#[120, 38]⟩ ++ x1 ++ b) 1 false w' (by rw [ByteArray.size_append, z2]; omega) (HL.out.below h))
          clear k3 z1 z2 hb
          go_wp2_with fail
          refine (S1.out _ HB2.out).mono ?_
          rintro e w3 ⟨rfl, b3⟩
          have k4 : w3.cell? (ad.add i) = some (.string x1) := HK3.out w3 b3
          have HL3 := Lib.hid (HL2.out.keep b3)
          have HN3 := Lib.hid (HN2.out.keep b3)
          have HB3 := Lib.hid (below_then HB2.out HB2.out.size b3)
          clear b3
          go_wp2_with fail
          refine (S2.out _ HB3.out).mono ?_
          rintro e w4 ⟨rfl, b4⟩
          have HL4 := Lib.hid (HL3.out.keep b4)
          have HN4 := Lib.hid (HN3.out.keep b4)
          have HB4 := Lib.hid (below_then HB3.out HB3.out.size b4)
          clear b4
          go_wp2_with fail
          exact ⟨⟨j + 1, by omega, by go_num, HL4.out, HN4.out, HB4.out⟩, by simp [intOf]; omega⟩
        · have d1 : decide ((j : Int) < 9) = false := decide_eq_false (by omega)
          go_wp2_with fail
          exact ⟨⟨i + 1, by omega, by go_num, HN2.out, HB2.out⟩, by simp [intOf]; omega⟩
    · have d0 : decide ((i : Int) < 51) = false := decide_eq_false (by omega)
      have hal : Below wo.heap.size wo (wo.alloc (.cells (arrS refs20) 9)) := (Below.refl _ _).alloc (Nat.le_refl _) _
      have HLI := Lib.hid (lit_new wo 9 refs20)
      have HBI := Lib.hid (below_then HB.out HB.out.size hal)
      clear hal
      go_wp2_with (refine wpList_buildAt (o := ⟨_, .buildSlice _ _ _, _, _, _, _⟩) rfl _ 9 _ _ rfl (arrS refs20) 1 (.string ⟨#[]⟩) Try.underlying22 (by kernel_rfl) (by decide) (by decide) (by kernel_rfl) ?_)
      go_loopw [44] (fun jv wr => ∃ j : Nat, j ≤ 20 ∧ jv = .int .i64 j ∧ LitAt wr wo.heap.size refs20 ∧ Below w.heap.size w wr) (fun jv _ => 20 - (intOf jv).toNat)
      case atStart => exact ⟨0, by omega, rfl, HLI.out, HBI.out⟩
      case round =>
        obtain ⟨j, hj, rfl, hl2, hb2⟩ := hrel
        obtain ⟨wm, rfl⟩ : ∃ wm : World, wm = wr := ⟨_, rfl⟩
        have HL2 := Lib.hid hl2
        have HB2 := Lib.hid hb2
        clear hl2 hb2 HLI HBI
        by_cases hlt2 : j < 20
        · have d1 : decide ((j : Int) < 20) = true := decide_eq_true (by omega)
          obtain ⟨s, hb, hbz⟩ := refs20_at j hlt2
          have k1 := HL2.out j s hb
          have s2 : IntKind.i64.wrap ((j : Int) + 1) = (j : Int) + 1 := IntWalk.i64_in _ (by omega)
          have S1 := Lib.hid (fun at_ fo w' (h : Below w.heap.size w w') => refsame_any s at_ fo w' (by omega) (HL.out.below h))
          clear hb
          go_wp2_with fail
          go_loopw [7] (fun av wr => ∃ a : Int, -1 ≤ a ∧ a ≤ 4 ∧ av = .int .i64 a ∧ LitAt wr wo.heap.size refs20 ∧ Below w.heap.size w wr) (fun av _ => (4 - intOf av).toNat)
          case atStart => exact ⟨-1, by omega, by omega, rfl, HL2.out, HB2.out⟩
          case round =>
            obtain ⟨a, ha, ha4, rfl, hl3, hb3⟩ := hrel
            have HL3 := Lib.hid hl3
            have HB3 := Lib.hid hb3
            clear hl3 hb3
            by_cases hlt3 : a < 4
            · have d2 : decide (a < 4) = true := decide_eq_true hlt3
              have s3 : IntKind.i64.wrap (a + 1) = a + 1 := IntWalk.i64_in _ (by omega)
              go_wp2_with fail
              refine (S1.out _ _ _ HB3.out).mono ?_
              rintro e w4 ⟨rfl, b4⟩
              have HL4 := Lib.hid (HL3.out.keep b4)
              have HB4 := Lib.hid (below_then HB3.out HB3.out.size b4)
              clear b4
              go_wp2_with fail
              refine (S1.out _ _ _ HB4.out).mono ?_
              rintro e w5 ⟨rfl, b5⟩
              have HL5 := Lib.hid (HL4.out.keep b5)
              have HB5 := Lib.hid (below_then HB4.out HB4.out.size b5)
              clear b5
              go_wp2_with fail
              exact ⟨⟨a + 1, by omega, by omega, rfl, HL5.out, HB5.out⟩, by simp [intOf]; omega⟩
            · have d2 : decide (a < 4) = false := decide_eq_false hlt3
              go_wp2_with fail
              exact ⟨⟨j + 1, by omega, by go_num, HL3.out, HB3.out⟩, by simp [intOf]; omega⟩
        · have d1 : decide ((j : Int) < 20) = false := decide_eq_false (by omega)
          go_wp2_with fail
          refine (refknown_any _ (HL.out.below HB2.out)).mono ?_
          rintro e w4 ⟨rfl, b4⟩
          have HB4 := Lib.hid (below_then HB2.out HB2.out.size b4)
          clear b4
          go_wp2_with fail
          go_ret
          exact ⟨rfl, HB4.out⟩
end Go.Proofs.Ytpdbbpmkdkjppaa
