/- arbourref8.Right at the tokens of TokenNumbers (part B; printed). -/
import Derived.Test.YtjghkiphfpeocaaTnR
import Derived.Test.YtjghkiphfpeocaaMarkR
import Derived.Test.YtjghkiphfpeocaaScanR0
namespace Go.Proofs.Ytjghkiphfpeocaa
open Go.RowKit Go.BigFrame

set_option maxRecDepth 100000 in
set_option maxHeartbeats 4000000 in
theorem rr2_tx (w : World) (nm tx : ByteArray) (n : Nat) (sf : Bool) (A : Option Addr) (c : Nat) (ht : ¬ tx.size = 0) :
    Calls Try.prog 29 #[.agg #[.int .i64 2, .string nm, .slice A n c, .bool sf, .string tx]] w fun e w' => e = .returned (.bool false) ∧ Below w.heap.size w w' := by
  obtain ⟨t1, t2⟩ := list_ne ht
  have t3 : (tx.toList != []) = true := by rw [bne, t1]; rfl
  clear ht t2
  have HB0 := Lib.hid (below_tokR w #[.int .i64 2, .string nm, .slice A n c, .bool sf, .string tx])
  have HC := Lib.hid (Blk.new w 34 #[.int .i64 2, .string nm, .slice A n c, .bool sf, .string tx] (0, 0))
  have k0 := HC.out.cell 0
  have k1 := HC.out.cell 1
  have k2 := HC.out.cell 2
  have k3 := HC.out.cell 3
  have k4 := HC.out.cell 4
  obtain ⟨wr, hwr⟩ : ∃ wr, wr = w.alloc (.cells #[.int .i64 2, .string nm, .slice A n c, .bool sf, .string tx] 34) := ⟨_, rfl⟩
  have HWR := Lib.hid hwr
  have hks : ∀ m : After wr, m.W.cell? ⟨w.heap.size, 0, none⟩ = some (.int .i64 2) ∧ m.W.cell? ⟨w.heap.size, 1, none⟩ = some (.string nm) ∧ m.W.cell? ⟨w.heap.size, 2, none⟩ = some (.slice A n c) ∧ m.W.cell? ⟨w.heap.size, 3, none⟩ = some (.bool sf) ∧ m.W.cell? ⟨w.heap.size, 4, none⟩ = some (.string tx) := fun m => by
    have hc := HC.out
    rw [← hwr] at hc
    have hc2 := hc.keep m.below
    exact ⟨hc2.cell 0, hc2.cell 1, hc2.cell 2, hc2.cell 3, hc2.cell 4⟩
  have KS := Lib.hid hks
  have HBw := HB0
  rw [← hwr] at HBw
  clear hks hwr
  go_enter Try.func29, Try.ntmps29
  go_upto_region 6 with (fail)
  rw [← HWR.out]
  clear k0 k1 k2 k3 k4
  have j0 := fun m => (KS.out m).1
  have j1 := fun m => (KS.out m).2.1
  have j2 := fun m => (KS.out m).2.2.1
  have j3 := fun m => (KS.out m).2.2.2.1
  have j4 := fun m => (KS.out m).2.2.2.2
  refine wp_region_after (by kernel_rfl) (by kernel_rfl) ?_
  repeat (any_goals (go_big_quiet_step (fail)))
  refine wpQuiet_nil ?_
  rintro w' ⟨m, rfl⟩
  go_wp2_with fail
  go_ret
  exact ⟨rfl, below_then HBw.out HBw.out.size m.below⟩
set_option maxRecDepth 100000 in
set_option maxHeartbeats 4000000 in
theorem rr2_e (w : World) (n : Nat) (sf : Bool) (A : Option Addr) (c : Nat) :
    Calls Try.prog 29 #[.agg #[.int .i64 2, .string ⟨#[]⟩, .slice A n c, .bool sf, .string ⟨#[]⟩]] w fun e w' => e = .returned (.bool false) ∧ Below w.heap.size w w' := by
  have HB0 := Lib.hid (below_tokR w #[.int .i64 2, .string ⟨#[]⟩, .slice A n c, .bool sf, .string ⟨#[]⟩])
  have HC := Lib.hid (Blk.new w 34 #[.int .i64 2, .string ⟨#[]⟩, .slice A n c, .bool sf, .string ⟨#[]⟩] (0, 0))
  have k0 := HC.out.cell 0
  have k1 := HC.out.cell 1
  have k2 := HC.out.cell 2
  have k3 := HC.out.cell 3
  have k4 := HC.out.cell 4
  obtain ⟨wr, hwr⟩ : ∃ wr, wr = w.alloc (.cells #[.int .i64 2, .string ⟨#[]⟩, .slice A n c, .bool sf, .string ⟨#[]⟩] 34) := ⟨_, rfl⟩
  have HWR := Lib.hid hwr
  have hks : ∀ m : After wr, m.W.cell? ⟨w.heap.size, 0, none⟩ = some (.int .i64 2) ∧ m.W.cell? ⟨w.heap.size, 1, none⟩ = some (.string ⟨#[]⟩) ∧ m.W.cell? ⟨w.heap.size, 2, none⟩ = some (.slice A n c) ∧ m.W.cell? ⟨w.heap.size, 3, none⟩ = some (.bool sf) ∧ m.W.cell? ⟨w.heap.size, 4, none⟩ = some (.string ⟨#[]⟩) := fun m => by
    have hc := HC.out
    rw [← hwr] at hc
    have hc2 := hc.keep m.below
    exact ⟨hc2.cell 0, hc2.cell 1, hc2.cell 2, hc2.cell 3, hc2.cell 4⟩
  have KS := Lib.hid hks
  have HBw := HB0
  rw [← hwr] at HBw
  clear hks hwr
  go_enter Try.func29, Try.ntmps29
  go_upto_region 6 with (fail)
  rw [← HWR.out]
  clear k0 k1 k2 k3 k4
  have j0 := fun m => (KS.out m).1
  have j1 := fun m => (KS.out m).2.1
  have j2 := fun m => (KS.out m).2.2.1
  have j3 := fun m => (KS.out m).2.2.2.1
  have j4 := fun m => (KS.out m).2.2.2.2
  refine wp_region_after (by kernel_rfl) (by kernel_rfl) ?_
  repeat (any_goals (go_big_quiet_step (fail)))
  refine wpQuiet_nil ?_
  rintro w' ⟨m, rfl⟩
  go_wp2_with fail
  go_ret
  exact ⟨rfl, below_then HBw.out HBw.out.size m.below⟩
set_option maxRecDepth 100000 in
set_option maxHeartbeats 4000000 in
theorem rr2_nl (w : World) (nm : ByteArray) (n : Nat) (sf : Bool) (A : Option Addr) (c : Nat) (hn : 0 < nm.size) (hl : letterB (nm[0]'hn) = false) :
    Calls Try.prog 29 #[.agg #[.int .i64 2, .string nm, .slice A n c, .bool sf, .string ⟨#[]⟩]] w fun e w' => e = .returned (.bool false) ∧ Below w.heap.size w w' := by
  obtain ⟨n1, n2⟩ := list_ne (show ¬ nm.size = 0 by omega)
  have HLt : Hid (∀ w, Calls Try.prog 45 #[.int .i32 (wrap32 ((nm[0]'hn).toNat : Int))] w fun e w' => e = .returned (.bool false) ∧ w = w') := fun w => hl ▸ rletter_rune _ w
  clear n2 hl
  have HB0 := Lib.hid (below_tokR w #[.int .i64 2, .string nm, .slice A n c, .bool sf, .string ⟨#[]⟩])
  have HC := Lib.hid (Blk.new w 34 #[.int .i64 2, .string nm, .slice A n c, .bool sf, .string ⟨#[]⟩] (0, 0))
  have k0 := HC.out.cell 0
  have k1 := HC.out.cell 1
  have k2 := HC.out.cell 2
  have k3 := HC.out.cell 3
  have k4 := HC.out.cell 4
  obtain ⟨wr, hwr⟩ : ∃ wr, wr = w.alloc (.cells #[.int .i64 2, .string nm, .slice A n c, .bool sf, .string ⟨#[]⟩] 34) := ⟨_, rfl⟩
  have HWR := Lib.hid hwr
  have hks : ∀ m : After wr, m.W.cell? ⟨w.heap.size, 0, none⟩ = some (.int .i64 2) ∧ m.W.cell? ⟨w.heap.size, 1, none⟩ = some (.string nm) ∧ m.W.cell? ⟨w.heap.size, 2, none⟩ = some (.slice A n c) ∧ m.W.cell? ⟨w.heap.size, 3, none⟩ = some (.bool sf) ∧ m.W.cell? ⟨w.heap.size, 4, none⟩ = some (.string ⟨#[]⟩) := fun m => by
    have hc := HC.out
    rw [← hwr] at hc
    have hc2 := hc.keep m.below
    exact ⟨hc2.cell 0, hc2.cell 1, hc2.cell 2, hc2.cell 3, hc2.cell 4⟩
  have KS := Lib.hid hks
  have HBw := HB0
  rw [← hwr] at HBw
  clear hks hwr
  go_enter Try.func29, Try.ntmps29
  go_upto_region 6 with (fail)
  rw [← HWR.out]
  clear k0 k1 k2 k3 k4
  have j0 := fun m => (KS.out m).1
  have j1 := fun m => (KS.out m).2.1
  have j2 := fun m => (KS.out m).2.2.1
  have j3 := fun m => (KS.out m).2.2.2.1
  have j4 := fun m => (KS.out m).2.2.2.2
  refine wp_region_after (by kernel_rfl) (by kernel_rfl) ?_
  repeat (any_goals (go_big_quiet_step ((go_at_call 45; with_reducible exact call_same (HLt.out _)))))
  refine wpQuiet_nil ?_
  rintro w' ⟨m, rfl⟩
  go_wp2_with fail
  go_ret
  exact ⟨rfl, below_then HBw.out HBw.out.size m.below⟩
set_option maxRecDepth 100000 in
set_option maxHeartbeats 4000000 in
theorem rr2_lo (w : World) (nm : ByteArray) (n : Nat) (sf : Bool) (A : Option Addr) (c : Nat) (hs : nm.size ≤ 65536) (hn : 0 < nm.size) (hl : letterB (nm[0]'hn) = true) (hle : lowE nm = false) :
    Calls Try.prog 29 #[.agg #[.int .i64 2, .string nm, .slice A n c, .bool sf, .string ⟨#[]⟩]] w fun e w' => e = .returned (.bool false) ∧ Below w.heap.size w w' := by
  obtain ⟨n1, n2⟩ := list_ne (show ¬ nm.size = 0 by omega)
  have HLt : Hid (∀ w, Calls Try.prog 45 #[.int .i32 (wrap32 ((nm[0]'hn).toNat : Int))] w fun e w' => e = .returned (.bool true) ∧ w = w') := fun w => hl ▸ rletter_rune _ w
  clear n2 hl
  have HLw := Lib.hid (fun w => rlower_any nm w (by omega))
  have hle3 : ((S (lowL (B nm))).toList == nm.toList) = false := hle
  have hle2 : ((S (lowL (B nm))).toList != nm.toList) = true := by rw [bne, hle3]; rfl
  clear hle hs
  have HB0 := Lib.hid (below_tokR w #[.int .i64 2, .string nm, .slice A n c, .bool sf, .string ⟨#[]⟩])
  have HC := Lib.hid (Blk.new w 34 #[.int .i64 2, .string nm, .slice A n c, .bool sf, .string ⟨#[]⟩] (0, 0))
  have k0 := HC.out.cell 0
  have k1 := HC.out.cell 1
  have k2 := HC.out.cell 2
  have k3 := HC.out.cell 3
  have k4 := HC.out.cell 4
  obtain ⟨wr, hwr⟩ : ∃ wr, wr = w.alloc (.cells #[.int .i64 2, .string nm, .slice A n c, .bool sf, .string ⟨#[]⟩] 34) := ⟨_, rfl⟩
  have HWR := Lib.hid hwr
  have hks : ∀ m : After wr, m.W.cell? ⟨w.heap.size, 0, none⟩ = some (.int .i64 2) ∧ m.W.cell? ⟨w.heap.size, 1, none⟩ = some (.string nm) ∧ m.W.cell? ⟨w.heap.size, 2, none⟩ = some (.slice A n c) ∧ m.W.cell? ⟨w.heap.size, 3, none⟩ = some (.bool sf) ∧ m.W.cell? ⟨w.heap.size, 4, none⟩ = some (.string ⟨#[]⟩) := fun m => by
    have hc := HC.out
    rw [← hwr] at hc
    have hc2 := hc.keep m.below
    exact ⟨hc2.cell 0, hc2.cell 1, hc2.cell 2, hc2.cell 3, hc2.cell 4⟩
  have KS := Lib.hid hks
  have HBw := HB0
  rw [← hwr] at HBw
  clear hks hwr
  go_enter Try.func29, Try.ntmps29
  go_upto_region 6 with (fail)
  rw [← HWR.out]
  clear k0 k1 k2 k3 k4
  have j0 := fun m => (KS.out m).1
  have j1 := fun m => (KS.out m).2.1
  have j2 := fun m => (KS.out m).2.2.1
  have j3 := fun m => (KS.out m).2.2.2.1
  have j4 := fun m => (KS.out m).2.2.2.2
  refine wp_region_after (by kernel_rfl) (by kernel_rfl) ?_
  repeat (any_goals (go_big_quiet_step (first | ((go_at_call 45; with_reducible exact call_same (HLt.out _))) | ((go_at_call 51; with_reducible exact call_after (HLw.out _))))))
  refine wpQuiet_nil ?_
  rintro w' ⟨m, rfl⟩
  go_wp2_with fail
  go_ret
  exact ⟨rfl, below_then HBw.out HBw.out.size m.below⟩
set_option maxRecDepth 100000 in
set_option maxHeartbeats 4000000 in
theorem rr3_tx (w : World) (nm tx : ByteArray) (n : Nat) (sf : Bool) (A : Option Addr) (c : Nat) (ht : ¬ tx.size = 0) :
    Calls Try.prog 29 #[.agg #[.int .i64 3, .string nm, .slice A n c, .bool sf, .string tx]] w fun e w' => e = .returned (.bool false) ∧ Below w.heap.size w w' := by
  obtain ⟨t1, t2⟩ := list_ne ht
  have t3 : (tx.toList != []) = true := by rw [bne, t1]; rfl
  clear ht t2
  have HB0 := Lib.hid (below_tokR w #[.int .i64 3, .string nm, .slice A n c, .bool sf, .string tx])
  have HC := Lib.hid (Blk.new w 34 #[.int .i64 3, .string nm, .slice A n c, .bool sf, .string tx] (0, 0))
  have k0 := HC.out.cell 0
  have k1 := HC.out.cell 1
  have k2 := HC.out.cell 2
  have k3 := HC.out.cell 3
  have k4 := HC.out.cell 4
  obtain ⟨wr, hwr⟩ : ∃ wr, wr = w.alloc (.cells #[.int .i64 3, .string nm, .slice A n c, .bool sf, .string tx] 34) := ⟨_, rfl⟩
  have HWR := Lib.hid hwr
  have hks : ∀ m : After wr, m.W.cell? ⟨w.heap.size, 0, none⟩ = some (.int .i64 3) ∧ m.W.cell? ⟨w.heap.size, 1, none⟩ = some (.string nm) ∧ m.W.cell? ⟨w.heap.size, 2, none⟩ = some (.slice A n c) ∧ m.W.cell? ⟨w.heap.size, 3, none⟩ = some (.bool sf) ∧ m.W.cell? ⟨w.heap.size, 4, none⟩ = some (.string tx) := fun m => by
    have hc := HC.out
    rw [← hwr] at hc
    have hc2 := hc.keep m.below
    exact ⟨hc2.cell 0, hc2.cell 1, hc2.cell 2, hc2.cell 3, hc2.cell 4⟩
  have KS := Lib.hid hks
  have HBw := HB0
  rw [← hwr] at HBw
  clear hks hwr
  go_enter Try.func29, Try.ntmps29
  go_upto_region 6 with (fail)
  rw [← HWR.out]
  clear k0 k1 k2 k3 k4
  have j0 := fun m => (KS.out m).1
  have j1 := fun m => (KS.out m).2.1
  have j2 := fun m => (KS.out m).2.2.1
  have j3 := fun m => (KS.out m).2.2.2.1
  have j4 := fun m => (KS.out m).2.2.2.2
  refine wp_region_after (by kernel_rfl) (by kernel_rfl) ?_
  repeat (any_goals (go_big_quiet_step (fail)))
  refine wpQuiet_nil ?_
  rintro w' ⟨m, rfl⟩
  go_wp2_with fail
  go_ret
  exact ⟨rfl, below_then HBw.out HBw.out.size m.below⟩
set_option maxRecDepth 100000 in
set_option maxHeartbeats 4000000 in
theorem rr3_sf (w : World) (nm : ByteArray) (n : Nat) (A : Option Addr) (c : Nat) :
    Calls Try.prog 29 #[.agg #[.int .i64 3, .string nm, .slice A n c, .bool true, .string ⟨#[]⟩]] w fun e w' => e = .returned (.bool false) ∧ Below w.heap.size w w' := by
  have HB0 := Lib.hid (below_tokR w #[.int .i64 3, .string nm, .slice A n c, .bool true, .string ⟨#[]⟩])
  have HC := Lib.hid (Blk.new w 34 #[.int .i64 3, .string nm, .slice A n c, .bool true, .string ⟨#[]⟩] (0, 0))
  have k0 := HC.out.cell 0
  have k1 := HC.out.cell 1
  have k2 := HC.out.cell 2
  have k3 := HC.out.cell 3
  have k4 := HC.out.cell 4
  obtain ⟨wr, hwr⟩ : ∃ wr, wr = w.alloc (.cells #[.int .i64 3, .string nm, .slice A n c, .bool true, .string ⟨#[]⟩] 34) := ⟨_, rfl⟩
  have HWR := Lib.hid hwr
  have hks : ∀ m : After wr, m.W.cell? ⟨w.heap.size, 0, none⟩ = some (.int .i64 3) ∧ m.W.cell? ⟨w.heap.size, 1, none⟩ = some (.string nm) ∧ m.W.cell? ⟨w.heap.size, 2, none⟩ = some (.slice A n c) ∧ m.W.cell? ⟨w.heap.size, 3, none⟩ = some (.bool true) ∧ m.W.cell? ⟨w.heap.size, 4, none⟩ = some (.string ⟨#[]⟩) := fun m => by
    have hc := HC.out
    rw [← hwr] at hc
    have hc2 := hc.keep m.below
    exact ⟨hc2.cell 0, hc2.cell 1, hc2.cell 2, hc2.cell 3, hc2.cell 4⟩
  have KS := Lib.hid hks
  have HBw := HB0
  rw [← hwr] at HBw
  clear hks hwr
  go_enter Try.func29, Try.ntmps29
  go_upto_region 6 with (fail)
  rw [← HWR.out]
  clear k0 k1 k2 k3 k4
  have j0 := fun m => (KS.out m).1
  have j1 := fun m => (KS.out m).2.1
  have j2 := fun m => (KS.out m).2.2.1
  have j3 := fun m => (KS.out m).2.2.2.1
  have j4 := fun m => (KS.out m).2.2.2.2
  refine wp_region_after (by kernel_rfl) (by kernel_rfl) ?_
  repeat (any_goals (go_big_quiet_step (fail)))
  refine wpQuiet_nil ?_
  rintro w' ⟨m, rfl⟩
  go_wp2_with fail
  go_ret
  exact ⟨rfl, below_then HBw.out HBw.out.size m.below⟩
set_option maxRecDepth 100000 in
set_option maxHeartbeats 4000000 in
theorem rr3_at1 (w : World) (nm : ByteArray) (A : Option Addr) (c : Nat) :
    Calls Try.prog 29 #[.agg #[.int .i64 3, .string nm, .slice A 1 c, .bool false, .string ⟨#[]⟩]] w fun e w' => e = .returned (.bool false) ∧ Below w.heap.size w w' := by
  have HB0 := Lib.hid (below_tokR w #[.int .i64 3, .string nm, .slice A 1 c, .bool false, .string ⟨#[]⟩])
  have HC := Lib.hid (Blk.new w 34 #[.int .i64 3, .string nm, .slice A 1 c, .bool false, .string ⟨#[]⟩] (0, 0))
  have k0 := HC.out.cell 0
  have k1 := HC.out.cell 1
  have k2 := HC.out.cell 2
  have k3 := HC.out.cell 3
  have k4 := HC.out.cell 4
  obtain ⟨wr, hwr⟩ : ∃ wr, wr = w.alloc (.cells #[.int .i64 3, .string nm, .slice A 1 c, .bool false, .string ⟨#[]⟩] 34) := ⟨_, rfl⟩
  have HWR := Lib.hid hwr
  have hks : ∀ m : After wr, m.W.cell? ⟨w.heap.size, 0, none⟩ = some (.int .i64 3) ∧ m.W.cell? ⟨w.heap.size, 1, none⟩ = some (.string nm) ∧ m.W.cell? ⟨w.heap.size, 2, none⟩ = some (.slice A 1 c) ∧ m.W.cell? ⟨w.heap.size, 3, none⟩ = some (.bool false) ∧ m.W.cell? ⟨w.heap.size, 4, none⟩ = some (.string ⟨#[]⟩) := fun m => by
    have hc := HC.out
    rw [← hwr] at hc
    have hc2 := hc.keep m.below
    exact ⟨hc2.cell 0, hc2.cell 1, hc2.cell 2, hc2.cell 3, hc2.cell 4⟩
  have KS := Lib.hid hks
  have HBw := HB0
  rw [← hwr] at HBw
  clear hks hwr
  go_enter Try.func29, Try.ntmps29
  go_upto_region 6 with (fail)
  rw [← HWR.out]
  clear k0 k1 k2 k3 k4
  have j0 := fun m => (KS.out m).1
  have j1 := fun m => (KS.out m).2.1
  have j2 := fun m => (KS.out m).2.2.1
  have j3 := fun m => (KS.out m).2.2.2.1
  have j4 := fun m => (KS.out m).2.2.2.2
  refine wp_region_after (by kernel_rfl) (by kernel_rfl) ?_
  repeat (any_goals (go_big_quiet_step (fail)))
  refine wpQuiet_nil ?_
  rintro w' ⟨m, rfl⟩
  go_wp2_with fail
  go_ret
  exact ⟨rfl, below_then HBw.out HBw.out.size m.below⟩
set_option maxRecDepth 100000 in
set_option maxHeartbeats 4000000 in
theorem rr3_at2 (w : World) (nm : ByteArray) (A : Option Addr) (c : Nat) :
    Calls Try.prog 29 #[.agg #[.int .i64 3, .string nm, .slice A 2 c, .bool false, .string ⟨#[]⟩]] w fun e w' => e = .returned (.bool false) ∧ Below w.heap.size w w' := by
  have HB0 := Lib.hid (below_tokR w #[.int .i64 3, .string nm, .slice A 2 c, .bool false, .string ⟨#[]⟩])
  have HC := Lib.hid (Blk.new w 34 #[.int .i64 3, .string nm, .slice A 2 c, .bool false, .string ⟨#[]⟩] (0, 0))
  have k0 := HC.out.cell 0
  have k1 := HC.out.cell 1
  have k2 := HC.out.cell 2
  have k3 := HC.out.cell 3
  have k4 := HC.out.cell 4
  obtain ⟨wr, hwr⟩ : ∃ wr, wr = w.alloc (.cells #[.int .i64 3, .string nm, .slice A 2 c, .bool false, .string ⟨#[]⟩] 34) := ⟨_, rfl⟩
  have HWR := Lib.hid hwr
  have hks : ∀ m : After wr, m.W.cell? ⟨w.heap.size, 0, none⟩ = some (.int .i64 3) ∧ m.W.cell? ⟨w.heap.size, 1, none⟩ = some (.string nm) ∧ m.W.cell? ⟨w.heap.size, 2, none⟩ = some (.slice A 2 c) ∧ m.W.cell? ⟨w.heap.size, 3, none⟩ = some (.bool false) ∧ m.W.cell? ⟨w.heap.size, 4, none⟩ = some (.string ⟨#[]⟩) := fun m => by
    have hc := HC.out
    rw [← hwr] at hc
    have hc2 := hc.keep m.below
    exact ⟨hc2.cell 0, hc2.cell 1, hc2.cell 2, hc2.cell 3, hc2.cell 4⟩
  have KS := Lib.hid hks
  have HBw := HB0
  rw [← hwr] at HBw
  clear hks hwr
  go_enter Try.func29, Try.ntmps29
  go_upto_region 6 with (fail)
  rw [← HWR.out]
  clear k0 k1 k2 k3 k4
  have j0 := fun m => (KS.out m).1
  have j1 := fun m => (KS.out m).2.1
  have j2 := fun m => (KS.out m).2.2.1
  have j3 := fun m => (KS.out m).2.2.2.1
  have j4 := fun m => (KS.out m).2.2.2.2
  refine wp_region_after (by kernel_rfl) (by kernel_rfl) ?_
  repeat (any_goals (go_big_quiet_step (fail)))
  refine wpQuiet_nil ?_
  rintro w' ⟨m, rfl⟩
  go_wp2_with fail
  go_ret
  exact ⟨rfl, below_then HBw.out HBw.out.size m.below⟩
set_option maxRecDepth 100000 in
set_option maxHeartbeats 4000000 in
theorem rr3_e (w : World) (A : Option Addr) (c : Nat) :
    Calls Try.prog 29 #[.agg #[.int .i64 3, .string ⟨#[]⟩, .slice A 0 c, .bool false, .string ⟨#[]⟩]] w fun e w' => e = .returned (.bool false) ∧ Below w.heap.size w w' := by
  have HB0 := Lib.hid (below_tokR w #[.int .i64 3, .string ⟨#[]⟩, .slice A 0 c, .bool false, .string ⟨#[]⟩])
  have HC := Lib.hid (Blk.new w 34 #[.int .i64 3, .string ⟨#[]⟩, .slice A 0 c, .bool false, .string ⟨#[]⟩] (0, 0))
  have k0 := HC.out.cell 0
  have k1 := HC.out.cell 1
  have k2 := HC.out.cell 2
  have k3 := HC.out.cell 3
  have k4 := HC.out.cell 4
  obtain ⟨wr, hwr⟩ : ∃ wr, wr = w.alloc (.cells #[.int .i64 3, .string ⟨#[]⟩, .slice A 0 c, .bool false, .string ⟨#[]⟩] 34) := ⟨_, rfl⟩
  have HWR := Lib.hid hwr
  have hks : ∀ m : After wr, m.W.cell? ⟨w.heap.size, 0, none⟩ = some (.int .i64 3) ∧ m.W.cell? ⟨w.heap.size, 1, none⟩ = some (.string ⟨#[]⟩) ∧ m.W.cell? ⟨w.heap.size, 2, none⟩ = some (.slice A 0 c) ∧ m.W.cell? ⟨w.heap.size, 3, none⟩ = some (.bool false) ∧ m.W.cell? ⟨w.heap.size, 4, none⟩ = some (.string ⟨#[]⟩) := fun m => by
    have hc := HC.out
    rw [← hwr] at hc
    have hc2 := hc.keep m.below
    exact ⟨hc2.cell 0, hc2.cell 1, hc2.cell 2, hc2.cell 3, hc2.cell 4⟩
  have KS := Lib.hid hks
  have HBw := HB0
  rw [← hwr] at HBw
  clear hks hwr
  go_enter Try.func29, Try.ntmps29
  go_upto_region 6 with (fail)
  rw [← HWR.out]
  clear k0 k1 k2 k3 k4
  have j0 := fun m => (KS.out m).1
  have j1 := fun m => (KS.out m).2.1
  have j2 := fun m => (KS.out m).2.2.1
  have j3 := fun m => (KS.out m).2.2.2.1
  have j4 := fun m => (KS.out m).2.2.2.2
  refine wp_region_after (by kernel_rfl) (by kernel_rfl) ?_
  repeat (any_goals (go_big_quiet_step (fail)))
  refine wpQuiet_nil ?_
  rintro w' ⟨m, rfl⟩
  go_wp2_with fail
  go_ret
  exact ⟨rfl, below_then HBw.out HBw.out.size m.below⟩
set_option maxRecDepth 100000 in
set_option maxHeartbeats 4000000 in
theorem rr3_nl (w : World) (nm : ByteArray) (A : Option Addr) (c : Nat) (hn : 0 < nm.size) (hl : letterB (nm[0]'hn) = false) :
    Calls Try.prog 29 #[.agg #[.int .i64 3, .string nm, .slice A 0 c, .bool false, .string ⟨#[]⟩]] w fun e w' => e = .returned (.bool false) ∧ Below w.heap.size w w' := by
  obtain ⟨n1, n2⟩ := list_ne (show ¬ nm.size = 0 by omega)
  have HLt : Hid (∀ w, Calls Try.prog 45 #[.int .i32 (wrap32 ((nm[0]'hn).toNat : Int))] w fun e w' => e = .returned (.bool false) ∧ w = w') := fun w => hl ▸ rletter_rune _ w
  clear n2 hl
  have HB0 := Lib.hid (below_tokR w #[.int .i64 3, .string nm, .slice A 0 c, .bool false, .string ⟨#[]⟩])
  have HC := Lib.hid (Blk.new w 34 #[.int .i64 3, .string nm, .slice A 0 c, .bool false, .string ⟨#[]⟩] (0, 0))
  have k0 := HC.out.cell 0
  have k1 := HC.out.cell 1
  have k2 := HC.out.cell 2
  have k3 := HC.out.cell 3
  have k4 := HC.out.cell 4
  obtain ⟨wr, hwr⟩ : ∃ wr, wr = w.alloc (.cells #[.int .i64 3, .string nm, .slice A 0 c, .bool false, .string ⟨#[]⟩] 34) := ⟨_, rfl⟩
  have HWR := Lib.hid hwr
  have hks : ∀ m : After wr, m.W.cell? ⟨w.heap.size, 0, none⟩ = some (.int .i64 3) ∧ m.W.cell? ⟨w.heap.size, 1, none⟩ = some (.string nm) ∧ m.W.cell? ⟨w.heap.size, 2, none⟩ = some (.slice A 0 c) ∧ m.W.cell? ⟨w.heap.size, 3, none⟩ = some (.bool false) ∧ m.W.cell? ⟨w.heap.size, 4, none⟩ = some (.string ⟨#[]⟩) := fun m => by
    have hc := HC.out
    rw [← hwr] at hc
    have hc2 := hc.keep m.below
    exact ⟨hc2.cell 0, hc2.cell 1, hc2.cell 2, hc2.cell 3, hc2.cell 4⟩
  have KS := Lib.hid hks
  have HBw := HB0
  rw [← hwr] at HBw
  clear hks hwr
  go_enter Try.func29, Try.ntmps29
  go_upto_region 6 with (fail)
  rw [← HWR.out]
  clear k0 k1 k2 k3 k4
  have j0 := fun m => (KS.out m).1
  have j1 := fun m => (KS.out m).2.1
  have j2 := fun m => (KS.out m).2.2.1
  have j3 := fun m => (KS.out m).2.2.2.1
  have j4 := fun m => (KS.out m).2.2.2.2
  refine wp_region_after (by kernel_rfl) (by kernel_rfl) ?_
  repeat (any_goals (go_big_quiet_step ((go_at_call 45; with_reducible exact call_same (HLt.out _)))))
  refine wpQuiet_nil ?_
  rintro w' ⟨m, rfl⟩
  go_wp2_with fail
  go_ret
  exact ⟨rfl, below_then HBw.out HBw.out.size m.below⟩
set_option maxRecDepth 100000 in
set_option maxHeartbeats 4000000 in
theorem rr3_lo (w : World) (nm : ByteArray) (A : Option Addr) (c : Nat) (hs : nm.size ≤ 65536) (hn : 0 < nm.size) (hl : letterB (nm[0]'hn) = true) (hle : lowE nm = false) :
    Calls Try.prog 29 #[.agg #[.int .i64 3, .string nm, .slice A 0 c, .bool false, .string ⟨#[]⟩]] w fun e w' => e = .returned (.bool false) ∧ Below w.heap.size w w' := by
  obtain ⟨n1, n2⟩ := list_ne (show ¬ nm.size = 0 by omega)
  have HLt : Hid (∀ w, Calls Try.prog 45 #[.int .i32 (wrap32 ((nm[0]'hn).toNat : Int))] w fun e w' => e = .returned (.bool true) ∧ w = w') := fun w => hl ▸ rletter_rune _ w
  clear n2 hl
  have HLw := Lib.hid (fun w => rlower_any nm w (by omega))
  have hle3 : ((S (lowL (B nm))).toList == nm.toList) = false := hle
  have hle2 : ((S (lowL (B nm))).toList != nm.toList) = true := by rw [bne, hle3]; rfl
  clear hle hs
  have HB0 := Lib.hid (below_tokR w #[.int .i64 3, .string nm, .slice A 0 c, .bool false, .string ⟨#[]⟩])
  have HC := Lib.hid (Blk.new w 34 #[.int .i64 3, .string nm, .slice A 0 c, .bool false, .string ⟨#[]⟩] (0, 0))
  have k0 := HC.out.cell 0
  have k1 := HC.out.cell 1
  have k2 := HC.out.cell 2
  have k3 := HC.out.cell 3
  have k4 := HC.out.cell 4
  obtain ⟨wr, hwr⟩ : ∃ wr, wr = w.alloc (.cells #[.int .i64 3, .string nm, .slice A 0 c, .bool false, .string ⟨#[]⟩] 34) := ⟨_, rfl⟩
  have HWR := Lib.hid hwr
  have hks : ∀ m : After wr, m.W.cell? ⟨w.heap.size, 0, none⟩ = some (.int .i64 3) ∧ m.W.cell? ⟨w.heap.size, 1, none⟩ = some (.string nm) ∧ m.W.cell? ⟨w.heap.size, 2, none⟩ = some (.slice A 0 c) ∧ m.W.cell? ⟨w.heap.size, 3, none⟩ = some (.bool false) ∧ m.W.cell? ⟨w.heap.size, 4, none⟩ = some (.string ⟨#[]⟩) := fun m => by
    have hc := HC.out
    rw [← hwr] at hc
    have hc2 := hc.keep m.below
    exact ⟨hc2.cell 0, hc2.cell 1, hc2.cell 2, hc2.cell 3, hc2.cell 4⟩
  have KS := Lib.hid hks
  have HBw := HB0
  rw [← hwr] at HBw
  clear hks hwr
  go_enter Try.func29, Try.ntmps29
  go_upto_region 6 with (fail)
  rw [← HWR.out]
  clear k0 k1 k2 k3 k4
  have j0 := fun m => (KS.out m).1
  have j1 := fun m => (KS.out m).2.1
  have j2 := fun m => (KS.out m).2.2.1
  have j3 := fun m => (KS.out m).2.2.2.1
  have j4 := fun m => (KS.out m).2.2.2.2
  refine wp_region_after (by kernel_rfl) (by kernel_rfl) ?_
  repeat (any_goals (go_big_quiet_step (first | ((go_at_call 45; with_reducible exact call_same (HLt.out _))) | ((go_at_call 51; with_reducible exact call_after (HLw.out _))))))
  refine wpQuiet_nil ?_
  rintro w' ⟨m, rfl⟩
  go_wp2_with fail
  go_ret
  exact ⟨rfl, below_then HBw.out HBw.out.size m.below⟩
end Go.Proofs.Ytjghkiphfpeocaa
