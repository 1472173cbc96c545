/- token.Right at a tag's token. -/
import Derived.Test.YtjghkiphfpeocaaChars
import Derived.Test.YtjghkiphfpeocaaScanP
import Derived.Test.YtjghkiphfpeocaaPl
import Derived.Test.YtjghkiphfpeocaaAttrs4
import Derived.Test.YtjghkiphfpeocaaBase
import Derived.Laws.RangeAny
import Derived.LoopN
namespace Go.Proofs.Ytjghkiphfpeocaa
open Go.RowKit

/-! ### names -/
def noSp (l : List UInt8) : Prop := ∀ c ∈ l, spaceB c = false
theorem iter_belowT (w : World) (s : ByteArray) (pos : Nat) : Below w.heap.size w (w.iter s pos) := (Below.refl _ _).alloc (Nat.le_refl _) _
theorem info_strT : (Try.prog.info? 9).map (fun i => (i.zero, i.size, i.bytes)) = some (some (.string ⟨#[]⟩), 1, 16) := by kernel_rfl
theorem rd_one_strT {w : World} {b : Nat} {e : TypeId} {x : ByteArray} (h : Blk w b e #[.string x] (0, 0)) : Rd w (some ⟨b, 0, none⟩) 1 1 [.string x] :=
  ⟨rfl, fun u hu => by rw [List.mem_singleton] at hu; rw [hu]; rfl, fun _ => ⟨_, rfl, fun j u hu => by
    rw [add0, h.cell j]; simpa using hu⟩⟩
/-- One piece. -/
def OneOut (w : World) (e : Ending) (w' : World) : Prop := ∃ A c, e = .returned (.slice A 1 c) ∧ Below w.heap.size w w'
theorem rune_nosp (s : ByteArray) (pos : Nat) (h : pos < s.size) (hns : noSp (B s)) : (((Utf8.decode s pos).1 : Int) == 9 || ((Utf8.decode s pos).1 : Int) == 10 || ((Utf8.decode s pos).1 : Int) == 12 || ((Utf8.decode s pos).1 : Int) == 13 || ((Utf8.decode s pos).1 : Int) == 32) = false ∧ 1 ≤ (Utf8.decode s pos).2 := by
  by_cases ha : (s[pos]'h).toNat < 128
  · rw [decode_ascii s pos h ha]
    refine ⟨?_, Nat.le_refl _⟩
    have := hns s[pos] (List.mem_of_getElem? (B_at s pos h))
    rw [← space_eq] at this
    exact this
  · obtain ⟨h1, h2⟩ := decode_high s pos h (by omega)
    refine ⟨?_, h2⟩
    simp only [Bool.or_eq_false_iff, beq_eq_false_iff_ne]
    omega
theorem own_one {w : World} {base : Nat} {e : TypeId} {v : Value} {xs : List Value} (h : w.ownsRow base e 1 v 1 xs) : ∃ A c, v = .slice A 1 c := by
  rcases h.2 with ⟨h0, _⟩ | ⟨b, off, cap, hv, _⟩
  · omega
  · exact ⟨_, _, hv⟩
set_option maxHeartbeats 4000000 in
set_option maxRecDepth 100000 in
theorem split_one (s : ByteArray) (w : World) (hs : s.size ≤ 65536) (h0 : 0 < s.size) (hns : noSp (B s)) :
    Calls Try.prog 68 #[.string s] w (OneOut w) := by
  obtain ⟨i0, hi0, hz0, hz1, hz2⟩ := info_parts info_strT
  have HNS := Lib.hid hns
  have hne : (s.toList != []) = true := by
    rw [toList_B, bne_iff_ne]; intro e; rw [size_B, e] at h0; simp at h0
  have hne2 : (!s.toList.isEmpty) = true := by
    rw [toList_B]
    cases hb : B s with
    | nil => rw [size_B, hb] at h0; simp at h0
    | cons a b => rfl
  clear hns
  go_enter Try.func68, Try.ntmps68
  go_wp2_with fail
  go_loopw [3, 4, 5] (fun ov fv sv wr => ∃ pos : Nat, wr = w.iter s pos ∧ ov = .slice none 0 0 ∧ fv = .int .i64 0 ∧ sv = .bool false) (fun _ _ _ wr => s.size - wr.iterPos w.heap.size)
  case atStart => exact ⟨0, rfl, rfl, rfl, rfl⟩
  case round =>
    obtain ⟨pos, rfl, rfl, rfl, rfl⟩ := hrel
    by_cases hp : pos < s.size
    · have hnx : ∀ ty, (Instr.next (.pointer (some ⟨w.heap.size, 0, none⟩)) true ty).run Try.prog (w.iter s pos) = _ := fun ty => run_next_any w s pos ty hp
      obtain ⟨hsp, hwd⟩ := rune_nosp s pos hp HNS.out
      have HSP := Lib.hid (fun w => space_any ((Utf8.decode s pos).1 : Int) w)
      rw [hsp] at HSP
      generalize (Utf8.decode s pos).1 = r at *
      generalize (Utf8.decode s pos).2 = wd at *
      clear hsp
      go_wp2_with fail
      refine (HSP.out _).mono ?_
      rintro e w' ⟨rfl, rfl⟩
      by_cases hp0 : 0 < pos
      · go_wp2_with fail
        exact ⟨⟨pos + wd, rfl, rfl, rfl, rfl⟩, by simp; omega⟩
      · obtain rfl : pos = 0 := by omega
        go_wp2_with fail
        exact ⟨⟨wd, rfl, rfl, rfl, rfl⟩, by simp; omega⟩
    · have hnx : ∀ ty, (Instr.next (.pointer (some ⟨w.heap.size, 0, none⟩)) true ty).run Try.prog (w.iter s pos) = _ := fun ty => run_next_end w s pos ty hp
      have HB0 := Lib.hid (iter_belowT w s pos)
      go_wp2_with fail
      clear hnx
      refine (clone_any s _ (by omega)).mono ?_
      rintro e w1 ⟨rfl, hb1⟩
      have HB1 := Lib.hid (below_then HB0.out HB0.out.size hb1)
      have hal : Below w1.heap.size w1 (w1.alloc (.cells #[.string s] 9)) := (Below.refl _ _).alloc (Nat.le_refl _) _
      have HB2 := Lib.hid (below_then HB1.out HB1.out.size hal)
      have HRD := Lib.hid (rd_one_strT (Blk.new w1 9 #[.string s] (0, 0)))
      clear hb1 hal
      go_wp2_with (first
        | (at_builtin
           refine wpList_append_any _ rfl (.tmp 36) (.tmp 41) _ rfl w.heap.size 9 i0 _ 1 16 Try.underlying22 hi0 hz0 hz1 hz2 rfl (by omega) (.slice none 0 0) 0 [] rfl ⟨by rfl, .inl ⟨rfl, rfl⟩⟩ (some ⟨w1.heap.size, 0, none⟩) 1 _ _ rfl HRD.out (by simp only [maxLen]; omega) (by omega) HB2.out.size ?_
           intro v1 w2 hown1 hg1 hat1
           have HO3 := Lib.hid hown1
           have HB3 := Lib.hid (made_grown HB2.out hg1 (fun k hk => by simp [Value.ownBlock] at hk))
           clear hown1 hg1 hat1))
      go_ret
      obtain ⟨A, c, rfl⟩ := own_one HO3.out
      exact ⟨A, c, rfl, HB3.out⟩
end Go.Proofs.Ytjghkiphfpeocaa
