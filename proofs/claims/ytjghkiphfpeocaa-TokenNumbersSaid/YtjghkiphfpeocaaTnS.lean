/- chars.Split at 'p q': three pieces. -/
import Derived.Test.YtjghkiphfpeocaaRight
import Derived.Test.YtjghkiphfpeocaaTokS
import Derived.Test.YtjghkiphfpeocaaTokK
import Derived.Lib.OthersKept
namespace Go.Proofs.Ytjghkiphfpeocaa
open Go.RowKit Go.Lib

def pqS : ByteArray := ⟨#[112, 32, 113]⟩
theorem iterAt_but (w : World) (k : Nat) (s : ByteArray) (pos : Nat) : But (fun j => j = k) w (w.iterAt k s pos) := by
  refine ⟨rfl, rfl, rfl, ?_, fun j hj hn => ?_⟩
  · show _ ≤ (w.heap.setIfInBounds k _).size
    simp
  · show (w.heap.setIfInBounds k _)[j]? = _
    rw [Array.getElem?_setIfInBounds_ne (fun e => hn e.symm)]
theorem below_iterAt {b : Nat} {w0 w : World} (h : Below b w0 w) (k : Nat) (hk : b ≤ k) (s : ByteArray) (pos : Nat) (hs : b ≤ w.heap.size) : Below b w0 (w.iterAt k s pos) :=
  h.trans ((iterAt_but w k s pos).below (fun j hj => by rw [hj]; exact hk) hs)

theorem own_slice {w : World} {base : Nat} {e : TypeId} {k n : Nat} {v : Value} {xs : List Value} (h : w.ownsRow base e k v n xs) : ∃ A c, v = .slice A n c := by
  rcases h.2 with ⟨rfl, rfl⟩ | ⟨g, cap, cur, rfl, _⟩
  · exact ⟨none, 0, rfl⟩
  · exact ⟨_, cap, rfl⟩
set_option maxHeartbeats 4000000 in
set_option maxRecDepth 100000 in
theorem split_pq (w : World) : Calls Try.prog 68 #[.string ⟨#[112, 32, 113]⟩] w fun e w' => (∃ A c, e = .returned (.slice A 3 c)) ∧ Below w.heap.size w w' := by
  obtain ⟨i0, hi0, hz0, hz1, hz2⟩ := info_parts info_strT
  have hwi : (w.iter ⟨#[112, 32, 113]⟩ 0).heap[w.heap.size]? = some (.stringIter ⟨#[112, 32, 113]⟩ 0) := by simp [World.iter_heap]
  have HWI := Lib.hid hwi
  have hd0 : Utf8.decode ⟨#[112, 32, 113]⟩ 0 = (112, 1) := by decide +kernel
  have hd1 : Utf8.decode ⟨#[112, 32, 113]⟩ 1 = (32, 1) := by decide +kernel
  have hd2 : Utf8.decode ⟨#[112, 32, 113]⟩ 2 = (113, 1) := by decide +kernel
  have HD0 := Lib.hid hd0
  have HD1 := Lib.hid hd1
  have HD2 := Lib.hid hd2
  have hbi := iter_belowT w ⟨#[112, 32, 113]⟩ 0
  have HBI := Lib.hid hbi
  clear hwi hd0 hd1 hd2 hbi
  go_enter Try.func68, Try.ntmps68
  go_wp2_with fail
  go_loopw [3, 4, 5] (fun ov fv sv wr => ∃ (pos m fr : Nat) (was : Bool) (xs : List Value), wr.heap[w.heap.size]? = some (.stringIter ⟨#[112, 32, 113]⟩ pos) ∧ Below w.heap.size w wr ∧ wr.ownsRow (w.heap.size + 1) 9 1 ov m xs ∧ fv = .int .i64 fr ∧ sv = .bool was ∧ ((pos = 0 ∧ m = 0 ∧ fr = 0 ∧ was = false) ∨ (pos = 1 ∧ m = 0 ∧ fr = 0 ∧ was = false) ∨ (pos = 2 ∧ m = 1 ∧ fr = 1 ∧ was = true) ∨ (pos = 3 ∧ m = 2 ∧ fr = 2 ∧ was = false))) (fun _ _ _ wr => 3 - wr.iterPos w.heap.size)
  case atStart => exact ⟨0, 0, 0, false, [], HWI.out, HBI.out, ⟨by rfl, .inl ⟨rfl, rfl⟩⟩, rfl, rfl, .inl ⟨rfl, rfl, rfl, rfl⟩⟩
  case round =>
    obtain ⟨pos, m, fr, was, xs, hk, hb, ho, rfl, rfl, hcase⟩ := hrel
    have hsz := (Array.getElem?_eq_some_iff.1 hk).1
    have hip : ∀ (w2 : World) (p : Nat), w2.heap[w.heap.size]? = some (.stringIter ⟨#[112, 32, 113]⟩ p) → w2.iterPos w.heap.size = p := fun w2 p h => by simp [World.iterPos, h]
    have HIP := Lib.hid hip
    have hip0 := hip _ _ hk
    rcases hcase with ⟨rfl, rfl, rfl, rfl⟩ | ⟨rfl, rfl, rfl, rfl⟩ | ⟨rfl, rfl, rfl, rfl⟩ | ⟨rfl, rfl, rfl, rfl⟩
    · have hnx : ∀ ty, (Instr.next (.pointer (some ⟨w.heap.size, 0, none⟩)) true ty).run Try.prog wr = .ok (.tuple #[.bool true, .int .i64 0, .int .i32 112]) (wr.iterAt w.heap.size ⟨#[112, 32, 113]⟩ 1) := fun ty => by
        have h := run_next_any_at (P := Try.prog) wr w.heap.size ⟨#[112, 32, 113]⟩ 0 ty hk (by decide)
        rw [HD0.out] at h
        exact h
      have HK2 := Lib.hid (iterAt_heap wr w.heap.size ⟨#[112, 32, 113]⟩ 0 1 hk)
      have HO2 := Lib.hid (owns_but ho (iterAt_but wr w.heap.size ⟨#[112, 32, 113]⟩ 1) (fun g hg e => by have := (ho.lt g hg).1; omega))
      have HB2 := Lib.hid (below_iterAt hb w.heap.size (Nat.le_refl _) ⟨#[112, 32, 113]⟩ 1 (by omega))
      clear ho hb hip
      generalize wr.iterAt w.heap.size ⟨#[112, 32, 113]⟩ 1 = w2 at *
      go_wp2_with (first | (go_at_call 78; refine (space_any _ _).mono ?_; rintro e w' ⟨rfl, rfl⟩))
      exact ⟨⟨1, 0, 0, false, xs, HK2.out, HB2.out, HO2.out, rfl, rfl, .inr (.inl ⟨rfl, rfl, rfl, rfl⟩)⟩, by rw [HIP.out _ _ HK2.out, hip0]; omega⟩
    · have hnx : ∀ ty, (Instr.next (.pointer (some ⟨w.heap.size, 0, none⟩)) true ty).run Try.prog wr = .ok (.tuple #[.bool true, .int .i64 1, .int .i32 32]) (wr.iterAt w.heap.size ⟨#[112, 32, 113]⟩ 2) := fun ty => by
        have h := run_next_any_at (P := Try.prog) wr w.heap.size ⟨#[112, 32, 113]⟩ 1 ty hk (by decide)
        rw [HD1.out] at h
        exact h
      have HK2 := Lib.hid (iterAt_heap wr w.heap.size ⟨#[112, 32, 113]⟩ 1 2 hk)
      have HO2 := Lib.hid (owns_but ho (iterAt_but wr w.heap.size ⟨#[112, 32, 113]⟩ 2) (fun g hg e => by have := (ho.lt g hg).1; omega))
      have HB2 := Lib.hid (below_iterAt hb w.heap.size (Nat.le_refl _) ⟨#[112, 32, 113]⟩ 2 (by omega))
      clear ho hb hip
      generalize wr.iterAt w.heap.size ⟨#[112, 32, 113]⟩ 2 = w2 at *
      go_wp2_with (first
        | (go_at_call 78; refine (space_any _ _).mono ?_; rintro e w' ⟨rfl, rfl⟩)
        | (go_at_call 60
           refine (clone_any _ _ (by decide)).mono ?_
           rintro e w3 ⟨rfl, hb3⟩
           have hal : Below w3.heap.size w3 (w3.alloc (.cells #[.string ((ByteArray.mk #[112, 32, 113]).extract 0 1)] 9)) := (Below.refl _ _).alloc (Nat.le_refl _) _
           have HB4 := Lib.hid ((HB2.out.trans (hb3.mono HB2.out.size)).alloc (by have := HB2.out.size; have := hb3.size; omega) (.cells #[.string ((ByteArray.mk #[112, 32, 113]).extract 0 1)] 9))
           have HO4 := Lib.hid (owns_but (owns_but HO2.out (But.of_below hb3) (S := fun _ => False) (fun _ _ h => h)) (But.of_below hal) (S := fun _ => False) (fun _ _ h => h))
           have hk4 : (w3.alloc (.cells #[.string ((ByteArray.mk #[112, 32, 113]).extract 0 1)] 9)).heap[w.heap.size]? = some (.stringIter ⟨#[112, 32, 113]⟩ 2) := by
             rw [hal.block _ (by have := HB2.out.size; have := hb3.size; have := (Array.getElem?_eq_some_iff.1 HK2.out).1; omega), hb3.block _ (Array.getElem?_eq_some_iff.1 HK2.out).1]
             exact HK2.out
           have HK4 := Lib.hid hk4
           have HRD := Lib.hid (rd_one_strT (Blk.new w3 9 #[.string ((ByteArray.mk #[112, 32, 113]).extract 0 1)] (0, 0)))
           have hsz4 : w.heap.size + 1 ≤ (w3.alloc (.cells #[.string ((ByteArray.mk #[112, 32, 113]).extract 0 1)] 9)).heap.size := by have := (Array.getElem?_eq_some_iff.1 hk4).1; omega
           clear hb3 hal hk4)
        | (at_builtin
           refine wpList_append_any _ rfl (.tmp 24) (.tmp 30) _ rfl (w.heap.size + 1) 9 i0 _ 1 16 Try.underlying22 hi0 hz0 hz1 hz2 rfl (by omega) _ _ _ rfl HO4.out (some ⟨w3.heap.size, 0, none⟩) 1 1 _ rfl HRD.out (by simp only [maxLen]; omega) (by omega) hsz4 ?_
           intro v5 w5 hown5 hg5 _
           have hk5 : w5.heap[w.heap.size]? = some (.stringIter ⟨#[112, 32, 113]⟩ 2) := by
             rw [hg5.block _ (Array.getElem?_eq_some_iff.1 HK4.out).1 (fun e => by first | (have := (HO4.out.lt _ e).1; omega) | (have := (HO4.out.lt _ e.symm).1; omega))]
             exact HK4.out
           have HK5 := Lib.hid hk5
           have HO5 := Lib.hid hown5
           have HB5 := Lib.hid (show Below w.heap.size w w5 from HB4.out.grown hg5 (by omega) (fun k hk => by have := (HO4.out.lt k hk).1; omega))
           clear hown5 hg5 hk5))
      exact ⟨⟨2, 1, 1, true, _, HK5.out, HB5.out, HO5.out, rfl, rfl, .inr (.inr (.inl ⟨rfl, rfl, rfl, rfl⟩))⟩, by rw [HIP.out _ _ HK5.out, hip0]; omega⟩
    · have hnx : ∀ ty, (Instr.next (.pointer (some ⟨w.heap.size, 0, none⟩)) true ty).run Try.prog wr = .ok (.tuple #[.bool true, .int .i64 2, .int .i32 113]) (wr.iterAt w.heap.size ⟨#[112, 32, 113]⟩ 3) := fun ty => by
        have h := run_next_any_at (P := Try.prog) wr w.heap.size ⟨#[112, 32, 113]⟩ 2 ty hk (by decide)
        rw [HD2.out] at h
        exact h
      have HK2 := Lib.hid (iterAt_heap wr w.heap.size ⟨#[112, 32, 113]⟩ 2 3 hk)
      have HO2 := Lib.hid (owns_but ho (iterAt_but wr w.heap.size ⟨#[112, 32, 113]⟩ 3) (fun g hg e => by have := (ho.lt g hg).1; omega))
      have HB2 := Lib.hid (below_iterAt hb w.heap.size (Nat.le_refl _) ⟨#[112, 32, 113]⟩ 3 (by omega))
      clear ho hb hip
      generalize wr.iterAt w.heap.size ⟨#[112, 32, 113]⟩ 3 = w2 at *
      go_wp2_with (first
        | (go_at_call 78; refine (space_any _ _).mono ?_; rintro e w' ⟨rfl, rfl⟩)
        | (go_at_call 60
           refine (clone_any _ _ (by decide)).mono ?_
           rintro e w3 ⟨rfl, hb3⟩
           have hal : Below w3.heap.size w3 (w3.alloc (.cells #[.string ((ByteArray.mk #[112, 32, 113]).extract 1 2)] 9)) := (Below.refl _ _).alloc (Nat.le_refl _) _
           have HB4 := Lib.hid ((HB2.out.trans (hb3.mono HB2.out.size)).alloc (by have := HB2.out.size; have := hb3.size; omega) (.cells #[.string ((ByteArray.mk #[112, 32, 113]).extract 1 2)] 9))
           have HO4 := Lib.hid (owns_but (owns_but HO2.out (But.of_below hb3) (S := fun _ => False) (fun _ _ h => h)) (But.of_below hal) (S := fun _ => False) (fun _ _ h => h))
           have hk4 : (w3.alloc (.cells #[.string ((ByteArray.mk #[112, 32, 113]).extract 1 2)] 9)).heap[w.heap.size]? = some (.stringIter ⟨#[112, 32, 113]⟩ 3) := by
             rw [hal.block _ (by have := HB2.out.size; have := hb3.size; have := (Array.getElem?_eq_some_iff.1 HK2.out).1; omega), hb3.block _ (Array.getElem?_eq_some_iff.1 HK2.out).1]
             exact HK2.out
           have HK4 := Lib.hid hk4
           have HRD := Lib.hid (rd_one_strT (Blk.new w3 9 #[.string ((ByteArray.mk #[112, 32, 113]).extract 1 2)] (0, 0)))
           have hsz4 : w.heap.size + 1 ≤ (w3.alloc (.cells #[.string ((ByteArray.mk #[112, 32, 113]).extract 1 2)] 9)).heap.size := by have := (Array.getElem?_eq_some_iff.1 hk4).1; omega
           clear hb3 hal hk4)
        | (at_builtin
           refine wpList_append_any _ rfl (.tmp 24) (.tmp 30) _ rfl (w.heap.size + 1) 9 i0 _ 1 16 Try.underlying22 hi0 hz0 hz1 hz2 rfl (by omega) _ _ _ rfl HO4.out (some ⟨w3.heap.size, 0, none⟩) 1 1 _ rfl HRD.out (by simp only [maxLen]; omega) (by omega) hsz4 ?_
           intro v5 w5 hown5 hg5 _
           have hk5 : w5.heap[w.heap.size]? = some (.stringIter ⟨#[112, 32, 113]⟩ 3) := by
             rw [hg5.block _ (Array.getElem?_eq_some_iff.1 HK4.out).1 (fun e => by first | (have := (HO4.out.lt _ e).1; omega) | (have := (HO4.out.lt _ e.symm).1; omega))]
             exact HK4.out
           have HK5 := Lib.hid hk5
           have HO5 := Lib.hid hown5
           have HB5 := Lib.hid (show Below w.heap.size w w5 from HB4.out.grown hg5 (by omega) (fun k hk => by have := (HO4.out.lt k hk).1; omega))
           clear hown5 hg5 hk5))
      exact ⟨⟨3, 2, 2, false, _, HK5.out, HB5.out, HO5.out, rfl, rfl, .inr (.inr (.inr ⟨rfl, rfl, rfl, rfl⟩))⟩, by rw [HIP.out _ _ HK5.out, hip0]; omega⟩
    · have hnx : ∀ ty, (Instr.next (.pointer (some ⟨w.heap.size, 0, none⟩)) true ty).run Try.prog wr = _ := fun ty => run_next_end_at (P := Try.prog) wr w.heap.size ⟨#[112, 32, 113]⟩ 3 ty hk (by decide)
      have HK2 := Lib.hid hk
      have HO2 := Lib.hid ho
      have HB2 := Lib.hid hb
      clear ho hb hip
      go_wp2_with (first
        | (go_at_call 60
           refine (clone_any _ _ (by decide)).mono ?_
           rintro e w3 ⟨rfl, hb3⟩
           have hal : Below w3.heap.size w3 (w3.alloc (.cells #[.string ((ByteArray.mk #[112, 32, 113]).extract 2 3)] 9)) := (Below.refl _ _).alloc (Nat.le_refl _) _
           have HB4 := Lib.hid ((HB2.out.trans (hb3.mono HB2.out.size)).alloc (by have := HB2.out.size; have := hb3.size; omega) (.cells #[.string ((ByteArray.mk #[112, 32, 113]).extract 2 3)] 9))
           have HO4 := Lib.hid (owns_but (owns_but HO2.out (But.of_below hb3) (S := fun _ => False) (fun _ _ h => h)) (But.of_below hal) (S := fun _ => False) (fun _ _ h => h))
           have hk4 : (w3.alloc (.cells #[.string ((ByteArray.mk #[112, 32, 113]).extract 2 3)] 9)).heap[w.heap.size]? = some (.stringIter ⟨#[112, 32, 113]⟩ 3) := by
             rw [hal.block _ (by have := HB2.out.size; have := hb3.size; have := (Array.getElem?_eq_some_iff.1 HK2.out).1; omega), hb3.block _ (Array.getElem?_eq_some_iff.1 HK2.out).1]
             exact HK2.out
           have HK4 := Lib.hid hk4
           have HRD := Lib.hid (rd_one_strT (Blk.new w3 9 #[.string ((ByteArray.mk #[112, 32, 113]).extract 2 3)] (0, 0)))
           have hsz4 : w.heap.size + 1 ≤ (w3.alloc (.cells #[.string ((ByteArray.mk #[112, 32, 113]).extract 2 3)] 9)).heap.size := by have := (Array.getElem?_eq_some_iff.1 hk4).1; omega
           clear hb3 hal hk4)
        | (at_builtin
           refine wpList_append_any _ rfl (.tmp 36) (.tmp 41) _ rfl (w.heap.size + 1) 9 i0 _ 1 16 Try.underlying22 hi0 hz0 hz1 hz2 rfl (by omega) _ _ _ rfl HO4.out (some ⟨w3.heap.size, 0, none⟩) 1 1 _ rfl HRD.out (by simp only [maxLen]; omega) (by omega) hsz4 ?_
           intro v5 w5 hown5 hg5 _
           have hk5 : w5.heap[w.heap.size]? = some (.stringIter ⟨#[112, 32, 113]⟩ 3) := by
             rw [hg5.block _ (Array.getElem?_eq_some_iff.1 HK4.out).1 (fun e => by first | (have := (HO4.out.lt _ e).1; omega) | (have := (HO4.out.lt _ e.symm).1; omega))]
             exact HK4.out
           have HK5 := Lib.hid hk5
           have HO5 := Lib.hid hown5
           have HB5 := Lib.hid (show Below w.heap.size w w5 from HB4.out.grown hg5 (by omega) (fun k hk => by have := (HO4.out.lt k hk).1; omega))
           clear hown5 hg5 hk5))
      go_ret
      obtain ⟨A, c, hv⟩ := own_slice HO5.out
      exact ⟨⟨A, c, by rw [hv]; rfl⟩, HB5.out⟩
end Go.Proofs.Ytjghkiphfpeocaa
