/- arbourref5.All: the names. -/
import Derived.Test.YtpdbbpmkdkjppaaNamed
import Derived.Test.YtpdbbpmkdkjppaaAppend
namespace Go.Proofs.Ytpdbbpmkdkjppaa
open Go.RowKit

theorem info_str : (Try.prog.info? 9).map (fun i => (i.zero, i.size, i.bytes)) = some (some (.string ⟨#[]⟩), 1, 16) := by kernel_rfl
def namesV (j : Nat) : List Value := (tabT.take j).map (fun x => Value.string x.1)
theorem namesV_step {j : Nat} {x : ByteArray × ByteArray} (hx : tabT[j]? = some x) : namesV (j + 1) = namesV j ++ [.string x.1] := by
  unfold namesV
  rw [List.take_add_one, hx, List.map_append]
  rfl
theorem namesV_one (j : Nat) : ∀ u ∈ namesV j, u.oneCell' = true := by
  intro u hu
  obtain ⟨x, _, rfl⟩ := List.mem_map.1 hu
  rfl
theorem namesV_at {j : Nat} {x : ByteArray × ByteArray} (hx : tabT[j]? = some x) : (namesV 51)[j]? = some (.string x.1) := by
  unfold namesV
  rw [List.take_of_length_le (by decide), List.getElem?_map, hx]
  rfl
theorem own_nil (w : World) (e : TypeId) (k : Nat) : w.ownsRow w.heap.size e k (.slice none 0 0) 0 [] := ⟨by simp, .inl ⟨rfl, rfl⟩⟩
theorem rd_one_str {w : World} {b : Nat} {e : TypeId} {x : ByteArray} (h : Blk w b e #[.string x] (0, 0)) : Rd w (some ⟨b, 0, none⟩) 1 1 [.string x] :=
  ⟨rfl, fun u hu => by rw [List.mem_singleton] at hu; rw [hu]; rfl, fun _ => ⟨_, rfl, fun j u hu => by
    rw [add0, h.cell j]; simpa using hu⟩⟩
theorem TabAt.lt {w : World} {ad : Addr} (h : TabAt w ad) : ad.block < w.heap.size := by
  have := World.block_lt_of_cell? w _ (h 0 (.string ⟨#[65, 77, 80]⟩) rfl)
  rwa [add_block] at this
theorem TabAt.grown {w w' : World} {ad : Addr} {row : Option Nat} (h : TabAt w ad) (hg : w.grownBy w' row) (hne : row ≠ some ad.block) : TabAt w' ad := fun j u hu => by
  rw [← h j u hu]
  unfold World.cell?
  rw [add_block, hg.block ad.block h.lt hne.symm]

/-- What All answers: a slice that reads as the names. -/
def NamesOut (w : World) (e : Ending) (w' : World) : Prop := ∃ ad c, e = .returned (.slice (some ad) 51 c) ∧ (∀ j x, tabT[j]? = some x → w'.cell? (ad.add j) = some (.string x.1)) ∧ Below w.heap.size w w'
set_option maxHeartbeats 4000000 in
set_option maxRecDepth 100000 in
theorem allnames_any (w : World) :
    Calls Try.prog 7 #[] w (NamesOut w) := by
  obtain ⟨i0, hi0, hz0, hz1, hz2⟩ := info_parts info_str
  go_enter Try.func7, Try.ntmps7
  go_wp2_with fail
  refine (rtable_at _).mono ?_
  rintro e w1 ⟨ad, rfl, ht, hb⟩
  have HT1 := Lib.hid ht
  have HB1 := Lib.hid hb
  have HO1 : Hid (w1.ownsRow w.heap.size 9 1 (.slice none 0 0) 0 (namesV 0)) := ⟨by rfl, .inl ⟨rfl, rfl⟩⟩
  clear ht hb
  go_wp2_with fail
  go_loopw [3, 2] (fun i v wr => ∃ (j m : Nat), j ≤ 51 ∧ m ≤ 102 ∧ Hid (m = j * 2) ∧ i = .int .i64 m ∧ wr.ownsRow w.heap.size 9 1 v j (namesV j) ∧ TabAt wr ad ∧ v.ownBlock ≠ some ad.block ∧ Below w.heap.size w wr) (fun i _ _ => 102 - (intOf i).toNat)
  case atStart => exact ⟨0, 0, by omega, by omega, rfl, rfl, HO1.out, HT1.out, (by intro h; cases h), HB1.out⟩
  case round =>
    obtain ⟨j, m, hj, hm, HM, rfl, hO, hT, hne, hB⟩ := hrel
    have HNE := Lib.hid hne
    clear hne
    have HOr := Lib.hid hO
    have HTr := Lib.hid hT
    have HBr := Lib.hid hB
    by_cases hlt : m < 102
    · have hj2 : j < 51 := by have := HM.out; omega
      obtain ⟨x, hx⟩ : ∃ x, tabT[j]? = some x := ⟨_, List.getElem?_eq_getElem (show j < tabT.length from hj2)⟩
      have k1 : wr.cell? (ad.add m) = some (.string x.1) := by
        have := hT (j * 2 + 0) _ (row_at encOk_R tabT j 0 x _ hx rfl)
        rw [HM.out]; exact this
      have HS := Lib.hid (namesV_step hx)
      obtain ⟨x1, x2⟩ := x
      simp only at k1
      have s1 : IntKind.i64.wrap ((m : Int) + 2) = (m : Int) + 2 := IntWalk.i64_in _ (by omega)
      have HM2 : Hid (m + 2 = (j + 1) * 2) := by show _ = _; have := HM.out; omega
      have hal : Below wr.heap.size wr (wr.alloc (.cells #[.string x1] 9)) := (Below.refl _ _).alloc (Nat.le_refl _) _
      have HAL := Lib.hid hal
      have HO2 := Lib.hid (owns_but hO (But.of_below hal) (S := fun _ => False) (fun _ _ h => h))
      have HB2 := Lib.hid (below_then hB hB.size hal)
      have HRD := Lib.hid (rd_one_str (Blk.new wr 9 #[.string x1] (0, 0)))
      clear hx hO hT hB hal
      have HT2 := Lib.hid (HTr.out.keep HAL.out)
      go_wp2_with (first
        | (at_builtin
           refine wpList_append_any _ rfl (.tmp 11) (.tmp 16) _ rfl w.heap.size 9 i0 _ 1 16 Try.underlying22 hi0 hz0 hz1 hz2 rfl (by omega) _ _ _ rfl HO2.out (some ⟨wr.heap.size, 0, none⟩) 1 _ _ rfl HRD.out (by simp only [maxLen]; omega) (by omega) HB2.out.size ?_
           intro v1 w2 hown1 hg1 hat1
           have HO3 := Lib.hid hown1
           have HB3 := Lib.hid (made_grown HB2.out hg1 (fun k hk => (HO2.out.lt k hk).1))
           have HT3 := Lib.hid (HT2.out.grown hg1 HNE.out)
           have HN3 : Hid (v1.ownBlock ≠ some ad.block) := by
             show _ ≠ _
             rcases hat1 with h | h
             · rw [h]; exact HNE.out
             · rw [h]; intro e; have := HT2.out.lt; rw [← Option.some.inj e] at this; exact absurd this (Nat.lt_irrefl _)
           clear hown1 hg1 hat1))
      refine ⟨⟨j + 1, m + 2, by omega, by have := HM2.out; omega, HM2, by go_num, ?_, HT3.out, HN3.out, HB3.out⟩, by simp [intOf]; omega⟩
      rw [HS.out]; exact HO3.out
    · have he : m = 102 := by omega
      subst he
      have hj51 : j = 51 := by have := HM.out; omega
      subst hj51
      obtain ⟨A, c, hv, _, hr, _⟩ := own_rd hO (namesV_one 51)
      obtain ⟨a2, rfl, hc⟩ := hr.2.2 (by omega)
      subst hv
      have HC := Lib.hid hc
      clear hO hT hB hr hc
      go_wp2_with fail
      go_ret
      exact ⟨a2, c, rfl, fun j x hx => HC.out j _ (namesV_at hx), HBr.out⟩
end Go.Proofs.Ytpdbbpmkdkjppaa
