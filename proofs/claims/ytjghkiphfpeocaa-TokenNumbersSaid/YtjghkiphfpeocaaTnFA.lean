/- arbourref8.Right at the tokens of TokenNumbers (part A; printed). -/
import Derived.Test.YtjghkiphfpeocaaTnR
import Derived.Test.YtjghkiphfpeocaaMarkR
import Derived.Test.YtjghkiphfpeocaaScanR0
namespace Go.Proofs.Ytjghkiphfpeocaa
open Go.RowKit Go.BigFrame

set_option maxRecDepth 100000 in
set_option maxHeartbeats 4000000 in
theorem rr4_1 (w : World) (nm tx : ByteArray) (n : Nat) (sf : Bool) (A : Option Addr) (c : Nat) (hn : ¬ nm.size = 0) :
    Calls Try.prog 29 #[.agg #[.int .i64 4, .string nm, .slice A n c, .bool sf, .string tx]] w fun e w' => e = .returned (.bool false) ∧ Below w.heap.size w w' := by
  obtain ⟨n1, n2⟩ := list_ne hn
  clear hn n2
  have HB0 := Lib.hid (below_tokR w #[.int .i64 4, .string nm, .slice A n c, .bool sf, .string tx])
  have HC := Lib.hid (Blk.new w 34 #[.int .i64 4, .string nm, .slice A n c, .bool sf, .string tx] (0, 0))
  have k0 := HC.out.cell 0
  have k1 := HC.out.cell 1
  have k2 := HC.out.cell 2
  have k3 := HC.out.cell 3
  have k4 := HC.out.cell 4
  go_enter Try.func29, Try.ntmps29
  go_wp2_with fail
  go_ret
  exact ⟨rfl, HB0.out⟩
set_option maxRecDepth 100000 in
set_option maxHeartbeats 4000000 in
theorem rr4_2 (w : World) (tx : ByteArray) (n : Nat) (sf : Bool) (A : Option Addr) (c : Nat) (h0 : n ≠ 0) :
    Calls Try.prog 29 #[.agg #[.int .i64 4, .string ⟨#[]⟩, .slice A n c, .bool sf, .string tx]] w fun e w' => e = .returned (.bool false) ∧ Below w.heap.size w w' := by
  have z0 : ((n : Int) == 0) = false := by rw [beq_eq_false_iff_ne]; omega
  have z2 : decide ((n : Int) > 0) = true := decide_eq_true (by omega)
  clear h0
  have HB0 := Lib.hid (below_tokR w #[.int .i64 4, .string ⟨#[]⟩, .slice A n c, .bool sf, .string tx])
  have HC := Lib.hid (Blk.new w 34 #[.int .i64 4, .string ⟨#[]⟩, .slice A n c, .bool sf, .string tx] (0, 0))
  have k0 := HC.out.cell 0
  have k1 := HC.out.cell 1
  have k2 := HC.out.cell 2
  have k3 := HC.out.cell 3
  have k4 := HC.out.cell 4
  go_enter Try.func29, Try.ntmps29
  go_wp2_with fail
  go_ret
  exact ⟨rfl, HB0.out⟩
set_option maxRecDepth 100000 in
set_option maxHeartbeats 4000000 in
theorem rr4_3 (w : World) (tx : ByteArray) (A : Option Addr) (c : Nat) :
    Calls Try.prog 29 #[.agg #[.int .i64 4, .string ⟨#[]⟩, .slice A 0 c, .bool true, .string tx]] w fun e w' => e = .returned (.bool false) ∧ Below w.heap.size w w' := by
  have HB0 := Lib.hid (below_tokR w #[.int .i64 4, .string ⟨#[]⟩, .slice A 0 c, .bool true, .string tx])
  have HC := Lib.hid (Blk.new w 34 #[.int .i64 4, .string ⟨#[]⟩, .slice A 0 c, .bool true, .string tx] (0, 0))
  have k0 := HC.out.cell 0
  have k1 := HC.out.cell 1
  have k2 := HC.out.cell 2
  have k3 := HC.out.cell 3
  have k4 := HC.out.cell 4
  go_enter Try.func29, Try.ntmps29
  go_wp2_with fail
  go_ret
  exact ⟨rfl, HB0.out⟩
set_option maxRecDepth 100000 in
set_option maxHeartbeats 4000000 in
theorem rr4_4 (w : World) (tx : ByteArray) (A : Option Addr) (c : Nat) (ht : ¬ tx.size = 0) :
    Calls Try.prog 29 #[.agg #[.int .i64 4, .string ⟨#[]⟩, .slice A 0 c, .bool false, .string tx]] w fun e w' => e = .returned (.bool true) ∧ Below w.heap.size w w' := by
  obtain ⟨t1, t2⟩ := list_ne ht
  have t3 : (tx.toList != []) = true := by rw [bne, t1]; rfl
  clear ht t2
  have HB0 := Lib.hid (below_tokR w #[.int .i64 4, .string ⟨#[]⟩, .slice A 0 c, .bool false, .string tx])
  have HC := Lib.hid (Blk.new w 34 #[.int .i64 4, .string ⟨#[]⟩, .slice A 0 c, .bool false, .string tx] (0, 0))
  have k0 := HC.out.cell 0
  have k1 := HC.out.cell 1
  have k2 := HC.out.cell 2
  have k3 := HC.out.cell 3
  have k4 := HC.out.cell 4
  go_enter Try.func29, Try.ntmps29
  go_wp2_with fail
  go_ret
  exact ⟨rfl, HB0.out⟩
set_option maxRecDepth 100000 in
set_option maxHeartbeats 4000000 in
theorem rr4_5 (w : World) (A : Option Addr) (c : Nat) :
    Calls Try.prog 29 #[.agg #[.int .i64 4, .string ⟨#[]⟩, .slice A 0 c, .bool false, .string ⟨#[]⟩]] w fun e w' => e = .returned (.bool false) ∧ Below w.heap.size w w' := by
  have HB0 := Lib.hid (below_tokR w #[.int .i64 4, .string ⟨#[]⟩, .slice A 0 c, .bool false, .string ⟨#[]⟩])
  have HC := Lib.hid (Blk.new w 34 #[.int .i64 4, .string ⟨#[]⟩, .slice A 0 c, .bool false, .string ⟨#[]⟩] (0, 0))
  have k0 := HC.out.cell 0
  have k1 := HC.out.cell 1
  have k2 := HC.out.cell 2
  have k3 := HC.out.cell 3
  have k4 := HC.out.cell 4
  go_enter Try.func29, Try.ntmps29
  go_wp2_with fail
  go_ret
  exact ⟨rfl, HB0.out⟩
set_option maxRecDepth 100000 in
set_option maxHeartbeats 4000000 in
theorem rr5_1 (w : World) (nm tx : ByteArray) (n : Nat) (sf : Bool) (A : Option Addr) (c : Nat) (hn : ¬ nm.size = 0) :
    Calls Try.prog 29 #[.agg #[.int .i64 5, .string nm, .slice A n c, .bool sf, .string tx]] w fun e w' => e = .returned (.bool false) ∧ Below w.heap.size w w' := by
  obtain ⟨n1, n2⟩ := list_ne hn
  clear hn n2
  have HB0 := Lib.hid (below_tokR w #[.int .i64 5, .string nm, .slice A n c, .bool sf, .string tx])
  have HC := Lib.hid (Blk.new w 34 #[.int .i64 5, .string nm, .slice A n c, .bool sf, .string tx] (0, 0))
  have k0 := HC.out.cell 0
  have k1 := HC.out.cell 1
  have k2 := HC.out.cell 2
  have k3 := HC.out.cell 3
  have k4 := HC.out.cell 4
  go_enter Try.func29, Try.ntmps29
  go_wp2_with fail
  go_ret
  exact ⟨rfl, HB0.out⟩
set_option maxRecDepth 100000 in
set_option maxHeartbeats 4000000 in
theorem rr5_2 (w : World) (tx : ByteArray) (n : Nat) (sf : Bool) (A : Option Addr) (c : Nat) (h0 : n ≠ 0) :
    Calls Try.prog 29 #[.agg #[.int .i64 5, .string ⟨#[]⟩, .slice A n c, .bool sf, .string tx]] w fun e w' => e = .returned (.bool false) ∧ Below w.heap.size w w' := by
  have z0 : ((n : Int) == 0) = false := by rw [beq_eq_false_iff_ne]; omega
  have z2 : decide ((n : Int) > 0) = true := decide_eq_true (by omega)
  clear h0
  have HB0 := Lib.hid (below_tokR w #[.int .i64 5, .string ⟨#[]⟩, .slice A n c, .bool sf, .string tx])
  have HC := Lib.hid (Blk.new w 34 #[.int .i64 5, .string ⟨#[]⟩, .slice A n c, .bool sf, .string tx] (0, 0))
  have k0 := HC.out.cell 0
  have k1 := HC.out.cell 1
  have k2 := HC.out.cell 2
  have k3 := HC.out.cell 3
  have k4 := HC.out.cell 4
  go_enter Try.func29, Try.ntmps29
  go_wp2_with fail
  go_ret
  exact ⟨rfl, HB0.out⟩
set_option maxRecDepth 100000 in
set_option maxHeartbeats 4000000 in
theorem rr5_3 (w : World) (tx : ByteArray) (A : Option Addr) (c : Nat) :
    Calls Try.prog 29 #[.agg #[.int .i64 5, .string ⟨#[]⟩, .slice A 0 c, .bool true, .string tx]] w fun e w' => e = .returned (.bool false) ∧ Below w.heap.size w w' := by
  have HB0 := Lib.hid (below_tokR w #[.int .i64 5, .string ⟨#[]⟩, .slice A 0 c, .bool true, .string tx])
  have HC := Lib.hid (Blk.new w 34 #[.int .i64 5, .string ⟨#[]⟩, .slice A 0 c, .bool true, .string tx] (0, 0))
  have k0 := HC.out.cell 0
  have k1 := HC.out.cell 1
  have k2 := HC.out.cell 2
  have k3 := HC.out.cell 3
  have k4 := HC.out.cell 4
  go_enter Try.func29, Try.ntmps29
  go_wp2_with fail
  go_ret
  exact ⟨rfl, HB0.out⟩
set_option maxRecDepth 100000 in
set_option maxHeartbeats 4000000 in
theorem rr5_4 (w : World) (tx : ByteArray) (A : Option Addr) (c : Nat) (ht : ¬ tx.size = 0) :
    Calls Try.prog 29 #[.agg #[.int .i64 5, .string ⟨#[]⟩, .slice A 0 c, .bool false, .string tx]] w fun e w' => e = .returned (.bool true) ∧ Below w.heap.size w w' := by
  obtain ⟨t1, t2⟩ := list_ne ht
  have t3 : (tx.toList != []) = true := by rw [bne, t1]; rfl
  clear ht t2
  have HB0 := Lib.hid (below_tokR w #[.int .i64 5, .string ⟨#[]⟩, .slice A 0 c, .bool false, .string tx])
  have HC := Lib.hid (Blk.new w 34 #[.int .i64 5, .string ⟨#[]⟩, .slice A 0 c, .bool false, .string tx] (0, 0))
  have k0 := HC.out.cell 0
  have k1 := HC.out.cell 1
  have k2 := HC.out.cell 2
  have k3 := HC.out.cell 3
  have k4 := HC.out.cell 4
  go_enter Try.func29, Try.ntmps29
  go_wp2_with fail
  go_ret
  exact ⟨rfl, HB0.out⟩
set_option maxRecDepth 100000 in
set_option maxHeartbeats 4000000 in
theorem rr5_5 (w : World) (A : Option Addr) (c : Nat) :
    Calls Try.prog 29 #[.agg #[.int .i64 5, .string ⟨#[]⟩, .slice A 0 c, .bool false, .string ⟨#[]⟩]] w fun e w' => e = .returned (.bool true) ∧ Below w.heap.size w w' := by
  have HB0 := Lib.hid (below_tokR w #[.int .i64 5, .string ⟨#[]⟩, .slice A 0 c, .bool false, .string ⟨#[]⟩])
  have HC := Lib.hid (Blk.new w 34 #[.int .i64 5, .string ⟨#[]⟩, .slice A 0 c, .bool false, .string ⟨#[]⟩] (0, 0))
  have k0 := HC.out.cell 0
  have k1 := HC.out.cell 1
  have k2 := HC.out.cell 2
  have k3 := HC.out.cell 3
  have k4 := HC.out.cell 4
  go_enter Try.func29, Try.ntmps29
  go_wp2_with fail
  go_ret
  exact ⟨rfl, HB0.out⟩
set_option maxRecDepth 100000 in
set_option maxHeartbeats 4000000 in
theorem rr6_1 (w : World) (nm tx : ByteArray) (n : Nat) (sf : Bool) (A : Option Addr) (c : Nat) (hn : ¬ nm.size = 0) :
    Calls Try.prog 29 #[.agg #[.int .i64 6, .string nm, .slice A n c, .bool sf, .string tx]] w fun e w' => e = .returned (.bool false) ∧ Below w.heap.size w w' := by
  obtain ⟨n1, n2⟩ := list_ne hn
  clear hn n2
  have HB0 := Lib.hid (below_tokR w #[.int .i64 6, .string nm, .slice A n c, .bool sf, .string tx])
  have HC := Lib.hid (Blk.new w 34 #[.int .i64 6, .string nm, .slice A n c, .bool sf, .string tx] (0, 0))
  have k0 := HC.out.cell 0
  have k1 := HC.out.cell 1
  have k2 := HC.out.cell 2
  have k3 := HC.out.cell 3
  have k4 := HC.out.cell 4
  go_enter Try.func29, Try.ntmps29
  go_wp2_with fail
  go_ret
  exact ⟨rfl, HB0.out⟩
set_option maxRecDepth 100000 in
set_option maxHeartbeats 4000000 in
theorem rr6_2 (w : World) (tx : ByteArray) (n : Nat) (sf : Bool) (A : Option Addr) (c : Nat) (h0 : n ≠ 0) :
    Calls Try.prog 29 #[.agg #[.int .i64 6, .string ⟨#[]⟩, .slice A n c, .bool sf, .string tx]] w fun e w' => e = .returned (.bool false) ∧ Below w.heap.size w w' := by
  have z0 : ((n : Int) == 0) = false := by rw [beq_eq_false_iff_ne]; omega
  have z2 : decide ((n : Int) > 0) = true := decide_eq_true (by omega)
  clear h0
  have HB0 := Lib.hid (below_tokR w #[.int .i64 6, .string ⟨#[]⟩, .slice A n c, .bool sf, .string tx])
  have HC := Lib.hid (Blk.new w 34 #[.int .i64 6, .string ⟨#[]⟩, .slice A n c, .bool sf, .string tx] (0, 0))
  have k0 := HC.out.cell 0
  have k1 := HC.out.cell 1
  have k2 := HC.out.cell 2
  have k3 := HC.out.cell 3
  have k4 := HC.out.cell 4
  go_enter Try.func29, Try.ntmps29
  go_wp2_with fail
  go_ret
  exact ⟨rfl, HB0.out⟩
set_option maxRecDepth 100000 in
set_option maxHeartbeats 4000000 in
theorem rr6_3 (w : World) (tx : ByteArray) (A : Option Addr) (c : Nat) :
    Calls Try.prog 29 #[.agg #[.int .i64 6, .string ⟨#[]⟩, .slice A 0 c, .bool true, .string tx]] w fun e w' => e = .returned (.bool false) ∧ Below w.heap.size w w' := by
  have HB0 := Lib.hid (below_tokR w #[.int .i64 6, .string ⟨#[]⟩, .slice A 0 c, .bool true, .string tx])
  have HC := Lib.hid (Blk.new w 34 #[.int .i64 6, .string ⟨#[]⟩, .slice A 0 c, .bool true, .string tx] (0, 0))
  have k0 := HC.out.cell 0
  have k1 := HC.out.cell 1
  have k2 := HC.out.cell 2
  have k3 := HC.out.cell 3
  have k4 := HC.out.cell 4
  go_enter Try.func29, Try.ntmps29
  go_wp2_with fail
  go_ret
  exact ⟨rfl, HB0.out⟩
set_option maxRecDepth 100000 in
set_option maxHeartbeats 4000000 in
theorem rr6_4 (w : World) (tx : ByteArray) (A : Option Addr) (c : Nat) (ht : ¬ tx.size = 0) :
    Calls Try.prog 29 #[.agg #[.int .i64 6, .string ⟨#[]⟩, .slice A 0 c, .bool false, .string tx]] w fun e w' => e = .returned (.bool false) ∧ Below w.heap.size w w' := by
  obtain ⟨t1, t2⟩ := list_ne ht
  have t3 : (tx.toList != []) = true := by rw [bne, t1]; rfl
  clear ht t2
  have HB0 := Lib.hid (below_tokR w #[.int .i64 6, .string ⟨#[]⟩, .slice A 0 c, .bool false, .string tx])
  have HC := Lib.hid (Blk.new w 34 #[.int .i64 6, .string ⟨#[]⟩, .slice A 0 c, .bool false, .string tx] (0, 0))
  have k0 := HC.out.cell 0
  have k1 := HC.out.cell 1
  have k2 := HC.out.cell 2
  have k3 := HC.out.cell 3
  have k4 := HC.out.cell 4
  go_enter Try.func29, Try.ntmps29
  go_wp2_with fail
  go_ret
  exact ⟨rfl, HB0.out⟩
set_option maxRecDepth 100000 in
set_option maxHeartbeats 4000000 in
theorem rr6_5 (w : World) (A : Option Addr) (c : Nat) :
    Calls Try.prog 29 #[.agg #[.int .i64 6, .string ⟨#[]⟩, .slice A 0 c, .bool false, .string ⟨#[]⟩]] w fun e w' => e = .returned (.bool true) ∧ Below w.heap.size w w' := by
  have HB0 := Lib.hid (below_tokR w #[.int .i64 6, .string ⟨#[]⟩, .slice A 0 c, .bool false, .string ⟨#[]⟩])
  have HC := Lib.hid (Blk.new w 34 #[.int .i64 6, .string ⟨#[]⟩, .slice A 0 c, .bool false, .string ⟨#[]⟩] (0, 0))
  have k0 := HC.out.cell 0
  have k1 := HC.out.cell 1
  have k2 := HC.out.cell 2
  have k3 := HC.out.cell 3
  have k4 := HC.out.cell 4
  go_enter Try.func29, Try.ntmps29
  go_wp2_with fail
  go_ret
  exact ⟨rfl, HB0.out⟩
set_option maxRecDepth 100000 in
set_option maxHeartbeats 4000000 in
theorem rr0 (w : World) (nm tx : ByteArray) (n : Nat) (sf : Bool) (A : Option Addr) (c : Nat) (kd : Int) (q1 : kd ≠ 1) (q2 : kd ≠ 2) (q3 : kd ≠ 3) (q4 : kd ≠ 4) (q5 : kd ≠ 5) (q6 : kd ≠ 6) :
    Calls Try.prog 29 #[.agg #[.int .i64 kd, .string nm, .slice A n c, .bool sf, .string tx]] w fun e w' => e = .returned (.bool false) ∧ Below w.heap.size w w' := by
  have z1 : (kd == 1) = false := beq_eq_false_iff_ne.2 q1
  have z2 : (kd == 2) = false := beq_eq_false_iff_ne.2 q2
  have z3 : (kd == 3) = false := beq_eq_false_iff_ne.2 q3
  have z4 : (kd == 4) = false := beq_eq_false_iff_ne.2 q4
  have z5 : (kd == 5) = false := beq_eq_false_iff_ne.2 q5
  have z6 : (kd == 6) = false := beq_eq_false_iff_ne.2 q6
  clear q1 q2 q3 q4 q5 q6
  have HB0 := Lib.hid (below_tokR w #[.int .i64 kd, .string nm, .slice A n c, .bool sf, .string tx])
  have HC := Lib.hid (Blk.new w 34 #[.int .i64 kd, .string nm, .slice A n c, .bool sf, .string tx] (0, 0))
  have k0 := HC.out.cell 0
  have k1 := HC.out.cell 1
  have k2 := HC.out.cell 2
  have k3 := HC.out.cell 3
  have k4 := HC.out.cell 4
  go_enter Try.func29, Try.ntmps29
  go_wp2_with fail
  go_ret
  exact ⟨rfl, HB0.out⟩
set_option maxRecDepth 100000 in
set_option maxHeartbeats 4000000 in
theorem rr1_1 (w : World) (nm tx : ByteArray) (n : Nat) (sf : Bool) (A : Option Addr) (c : Nat) (hs : nm.size ≤ 65536) (hle : lowE nm = false) :
    Calls Try.prog 29 #[.agg #[.int .i64 1, .string nm, .slice A n c, .bool sf, .string tx]] w fun e w' => e = .returned (.bool false) ∧ Below w.heap.size w w' := by
  have HLw := Lib.hid (fun w => rlower_any nm w (by omega))
  have hle2 : ((S (lowL (B nm))).toList == nm.toList) = false := hle
  clear hs hle
  have HB0 := Lib.hid (below_tokR w #[.int .i64 1, .string nm, .slice A n c, .bool sf, .string tx])
  have HC := Lib.hid (Blk.new w 34 #[.int .i64 1, .string nm, .slice A n c, .bool sf, .string tx] (0, 0))
  have k0 := HC.out.cell 0
  have k1 := HC.out.cell 1
  have k2 := HC.out.cell 2
  have k3 := HC.out.cell 3
  have k4 := HC.out.cell 4
  obtain ⟨wr, hwr⟩ : ∃ wr, wr = w.alloc (.cells #[.int .i64 1, .string nm, .slice A n c, .bool sf, .string tx] 34) := ⟨_, rfl⟩
  have HWR := Lib.hid hwr
  have hks : ∀ m : After wr, m.W.cell? ⟨w.heap.size, 0, none⟩ = some (.int .i64 1) ∧ m.W.cell? ⟨w.heap.size, 1, none⟩ = some (.string nm) ∧ m.W.cell? ⟨w.heap.size, 2, none⟩ = some (.slice A n c) ∧ m.W.cell? ⟨w.heap.size, 3, none⟩ = some (.bool sf) ∧ m.W.cell? ⟨w.heap.size, 4, none⟩ = some (.string tx) := fun m => by
    have hc := HC.out
    rw [← hwr] at hc
    have hc2 := hc.keep m.below
    exact ⟨hc2.cell 0, hc2.cell 1, hc2.cell 2, hc2.cell 3, hc2.cell 4⟩
  have KS := Lib.hid hks
  have HBw := HB0
  rw [← hwr] at HBw
  clear hks hwr
  go_enter Try.func29, Try.ntmps29
  go_upto_region 3 with (fail)
  rw [← HWR.out]
  clear k0 k1 k2 k3 k4
  have j0 := fun m => (KS.out m).1
  have j1 := fun m => (KS.out m).2.1
  have j2 := fun m => (KS.out m).2.2.1
  have j3 := fun m => (KS.out m).2.2.2.1
  have j4 := fun m => (KS.out m).2.2.2.2
  refine wp_region_after (by kernel_rfl) (by kernel_rfl) ?_
  repeat (any_goals (go_big_quiet_step ((go_at_call 51; with_reducible exact call_after (HLw.out _)))))
  refine wpQuiet_nil ?_
  rintro w' ⟨m, rfl⟩
  go_wp2_with fail
  go_ret
  exact ⟨rfl, below_then HBw.out HBw.out.size m.below⟩
set_option maxRecDepth 100000 in
set_option maxHeartbeats 4000000 in
theorem rr1_2 (w : World) (nm tx : ByteArray) (n : Nat) (sf : Bool) (A : Option Addr) (c : Nat) (hs : nm.size ≤ 65536) (hle : lowE nm = true) (h0 : n ≠ 0) :
    Calls Try.prog 29 #[.agg #[.int .i64 1, .string nm, .slice A n c, .bool sf, .string tx]] w fun e w' => e = .returned (.bool false) ∧ Below w.heap.size w w' := by
  have HLw := Lib.hid (fun w => rlower_any nm w (by omega))
  have hle2 : ((S (lowL (B nm))).toList == nm.toList) = true := hle
  clear hs hle
  have z0 : ((n : Int) == 0) = false := by rw [beq_eq_false_iff_ne]; omega
  have z2 : decide ((n : Int) > 0) = true := decide_eq_true (by omega)
  clear h0
  have HB0 := Lib.hid (below_tokR w #[.int .i64 1, .string nm, .slice A n c, .bool sf, .string tx])
  have HC := Lib.hid (Blk.new w 34 #[.int .i64 1, .string nm, .slice A n c, .bool sf, .string tx] (0, 0))
  have k0 := HC.out.cell 0
  have k1 := HC.out.cell 1
  have k2 := HC.out.cell 2
  have k3 := HC.out.cell 3
  have k4 := HC.out.cell 4
  obtain ⟨wr, hwr⟩ : ∃ wr, wr = w.alloc (.cells #[.int .i64 1, .string nm, .slice A n c, .bool sf, .string tx] 34) := ⟨_, rfl⟩
  have HWR := Lib.hid hwr
  have hks : ∀ m : After wr, m.W.cell? ⟨w.heap.size, 0, none⟩ = some (.int .i64 1) ∧ m.W.cell? ⟨w.heap.size, 1, none⟩ = some (.string nm) ∧ m.W.cell? ⟨w.heap.size, 2, none⟩ = some (.slice A n c) ∧ m.W.cell? ⟨w.heap.size, 3, none⟩ = some (.bool sf) ∧ m.W.cell? ⟨w.heap.size, 4, none⟩ = some (.string tx) := fun m => by
    have hc := HC.out
    rw [← hwr] at hc
    have hc2 := hc.keep m.below
    exact ⟨hc2.cell 0, hc2.cell 1, hc2.cell 2, hc2.cell 3, hc2.cell 4⟩
  have KS := Lib.hid hks
  have HBw := HB0
  rw [← hwr] at HBw
  clear hks hwr
  go_enter Try.func29, Try.ntmps29
  go_upto_region 3 with (fail)
  rw [← HWR.out]
  clear k0 k1 k2 k3 k4
  have j0 := fun m => (KS.out m).1
  have j1 := fun m => (KS.out m).2.1
  have j2 := fun m => (KS.out m).2.2.1
  have j3 := fun m => (KS.out m).2.2.2.1
  have j4 := fun m => (KS.out m).2.2.2.2
  refine wp_region_after (by kernel_rfl) (by kernel_rfl) ?_
  repeat (any_goals (go_big_quiet_step ((go_at_call 51; with_reducible exact call_after (HLw.out _)))))
  refine wpQuiet_nil ?_
  rintro w' ⟨m, rfl⟩
  go_wp2_with fail
  go_ret
  exact ⟨rfl, below_then HBw.out HBw.out.size m.below⟩
set_option maxRecDepth 100000 in
set_option maxHeartbeats 4000000 in
theorem rr1_3 (w : World) (nm tx : ByteArray) (A : Option Addr) (c : Nat) (hs : nm.size ≤ 65536) (hle : lowE nm = true) :
    Calls Try.prog 29 #[.agg #[.int .i64 1, .string nm, .slice A 0 c, .bool true, .string tx]] w fun e w' => e = .returned (.bool false) ∧ Below w.heap.size w w' := by
  have HLw := Lib.hid (fun w => rlower_any nm w (by omega))
  have hle2 : ((S (lowL (B nm))).toList == nm.toList) = true := hle
  clear hs hle
  have HB0 := Lib.hid (below_tokR w #[.int .i64 1, .string nm, .slice A 0 c, .bool true, .string tx])
  have HC := Lib.hid (Blk.new w 34 #[.int .i64 1, .string nm, .slice A 0 c, .bool true, .string tx] (0, 0))
  have k0 := HC.out.cell 0
  have k1 := HC.out.cell 1
  have k2 := HC.out.cell 2
  have k3 := HC.out.cell 3
  have k4 := HC.out.cell 4
  obtain ⟨wr, hwr⟩ : ∃ wr, wr = w.alloc (.cells #[.int .i64 1, .string nm, .slice A 0 c, .bool true, .string tx] 34) := ⟨_, rfl⟩
  have HWR := Lib.hid hwr
  have hks : ∀ m : After wr, m.W.cell? ⟨w.heap.size, 0, none⟩ = some (.int .i64 1) ∧ m.W.cell? ⟨w.heap.size, 1, none⟩ = some (.string nm) ∧ m.W.cell? ⟨w.heap.size, 2, none⟩ = some (.slice A 0 c) ∧ m.W.cell? ⟨w.heap.size, 3, none⟩ = some (.bool true) ∧ m.W.cell? ⟨w.heap.size, 4, none⟩ = some (.string tx) := fun m => by
    have hc := HC.out
    rw [← hwr] at hc
    have hc2 := hc.keep m.below
    exact ⟨hc2.cell 0, hc2.cell 1, hc2.cell 2, hc2.cell 3, hc2.cell 4⟩
  have KS := Lib.hid hks
  have HBw := HB0
  rw [← hwr] at HBw
  clear hks hwr
  go_enter Try.func29, Try.ntmps29
  go_upto_region 3 with (fail)
  rw [← HWR.out]
  clear k0 k1 k2 k3 k4
  have j0 := fun m => (KS.out m).1
  have j1 := fun m => (KS.out m).2.1
  have j2 := fun m => (KS.out m).2.2.1
  have j3 := fun m => (KS.out m).2.2.2.1
  have j4 := fun m => (KS.out m).2.2.2.2
  refine wp_region_after (by kernel_rfl) (by kernel_rfl) ?_
  repeat (any_goals (go_big_quiet_step ((go_at_call 51; with_reducible exact call_after (HLw.out _)))))
  refine wpQuiet_nil ?_
  rintro w' ⟨m, rfl⟩
  go_wp2_with fail
  go_ret
  exact ⟨rfl, below_then HBw.out HBw.out.size m.below⟩
set_option maxRecDepth 100000 in
set_option maxHeartbeats 4000000 in
theorem rr1_4 (w : World) (nm tx : ByteArray) (A : Option Addr) (c : Nat) (hs : nm.size ≤ 65536) (hle : lowE nm = true) (ht : ¬ tx.size = 0) :
    Calls Try.prog 29 #[.agg #[.int .i64 1, .string nm, .slice A 0 c, .bool false, .string tx]] w fun e w' => e = .returned (.bool false) ∧ Below w.heap.size w w' := by
  have HLw := Lib.hid (fun w => rlower_any nm w (by omega))
  have hle2 : ((S (lowL (B nm))).toList == nm.toList) = true := hle
  clear hs hle
  obtain ⟨t1, t2⟩ := list_ne ht
  have t3 : (tx.toList != []) = true := by rw [bne, t1]; rfl
  clear ht t2
  have HB0 := Lib.hid (below_tokR w #[.int .i64 1, .string nm, .slice A 0 c, .bool false, .string tx])
  have HC := Lib.hid (Blk.new w 34 #[.int .i64 1, .string nm, .slice A 0 c, .bool false, .string tx] (0, 0))
  have k0 := HC.out.cell 0
  have k1 := HC.out.cell 1
  have k2 := HC.out.cell 2
  have k3 := HC.out.cell 3
  have k4 := HC.out.cell 4
  obtain ⟨wr, hwr⟩ : ∃ wr, wr = w.alloc (.cells #[.int .i64 1, .string nm, .slice A 0 c, .bool false, .string tx] 34) := ⟨_, rfl⟩
  have HWR := Lib.hid hwr
  have hks : ∀ m : After wr, m.W.cell? ⟨w.heap.size, 0, none⟩ = some (.int .i64 1) ∧ m.W.cell? ⟨w.heap.size, 1, none⟩ = some (.string nm) ∧ m.W.cell? ⟨w.heap.size, 2, none⟩ = some (.slice A 0 c) ∧ m.W.cell? ⟨w.heap.size, 3, none⟩ = some (.bool false) ∧ m.W.cell? ⟨w.heap.size, 4, none⟩ = some (.string tx) := fun m => by
    have hc := HC.out
    rw [← hwr] at hc
    have hc2 := hc.keep m.below
    exact ⟨hc2.cell 0, hc2.cell 1, hc2.cell 2, hc2.cell 3, hc2.cell 4⟩
  have KS := Lib.hid hks
  have HBw := HB0
  rw [← hwr] at HBw
  clear hks hwr
  go_enter Try.func29, Try.ntmps29
  go_upto_region 3 with (fail)
  rw [← HWR.out]
  clear k0 k1 k2 k3 k4
  have j0 := fun m => (KS.out m).1
  have j1 := fun m => (KS.out m).2.1
  have j2 := fun m => (KS.out m).2.2.1
  have j3 := fun m => (KS.out m).2.2.2.1
  have j4 := fun m => (KS.out m).2.2.2.2
  refine wp_region_after (by kernel_rfl) (by kernel_rfl) ?_
  repeat (any_goals (go_big_quiet_step ((go_at_call 51; with_reducible exact call_after (HLw.out _)))))
  refine wpQuiet_nil ?_
  rintro w' ⟨m, rfl⟩
  go_wp2_with fail
  go_ret
  exact ⟨rfl, below_then HBw.out HBw.out.size m.below⟩
set_option maxRecDepth 100000 in
set_option maxHeartbeats 4000000 in
theorem rr1_5 (w : World) (nm : ByteArray) (A : Option Addr) (c : Nat) (hs : nm.size ≤ 65536) (hle : lowE nm = true) :
    Calls Try.prog 29 #[.agg #[.int .i64 1, .string nm, .slice A 0 c, .bool false, .string ⟨#[]⟩]] w fun e w' => e = .returned (.bool true) ∧ Below w.heap.size w w' := by
  have HLw := Lib.hid (fun w => rlower_any nm w (by omega))
  have hle2 : ((S (lowL (B nm))).toList == nm.toList) = true := hle
  clear hs hle
  have HB0 := Lib.hid (below_tokR w #[.int .i64 1, .string nm, .slice A 0 c, .bool false, .string ⟨#[]⟩])
  have HC := Lib.hid (Blk.new w 34 #[.int .i64 1, .string nm, .slice A 0 c, .bool false, .string ⟨#[]⟩] (0, 0))
  have k0 := HC.out.cell 0
  have k1 := HC.out.cell 1
  have k2 := HC.out.cell 2
  have k3 := HC.out.cell 3
  have k4 := HC.out.cell 4
  obtain ⟨wr, hwr⟩ : ∃ wr, wr = w.alloc (.cells #[.int .i64 1, .string nm, .slice A 0 c, .bool false, .string ⟨#[]⟩] 34) := ⟨_, rfl⟩
  have HWR := Lib.hid hwr
  have hks : ∀ m : After wr, m.W.cell? ⟨w.heap.size, 0, none⟩ = some (.int .i64 1) ∧ m.W.cell? ⟨w.heap.size, 1, none⟩ = some (.string nm) ∧ m.W.cell? ⟨w.heap.size, 2, none⟩ = some (.slice A 0 c) ∧ m.W.cell? ⟨w.heap.size, 3, none⟩ = some (.bool false) ∧ m.W.cell? ⟨w.heap.size, 4, none⟩ = some (.string ⟨#[]⟩) := fun m => by
    have hc := HC.out
    rw [← hwr] at hc
    have hc2 := hc.keep m.below
    exact ⟨hc2.cell 0, hc2.cell 1, hc2.cell 2, hc2.cell 3, hc2.cell 4⟩
  have KS := Lib.hid hks
  have HBw := HB0
  rw [← hwr] at HBw
  clear hks hwr
  go_enter Try.func29, Try.ntmps29
  go_upto_region 3 with (fail)
  rw [← HWR.out]
  clear k0 k1 k2 k3 k4
  have j0 := fun m => (KS.out m).1
  have j1 := fun m => (KS.out m).2.1
  have j2 := fun m => (KS.out m).2.2.1
  have j3 := fun m => (KS.out m).2.2.2.1
  have j4 := fun m => (KS.out m).2.2.2.2
  refine wp_region_after (by kernel_rfl) (by kernel_rfl) ?_
  repeat (any_goals (go_big_quiet_step ((go_at_call 51; with_reducible exact call_after (HLw.out _)))))
  refine wpQuiet_nil ?_
  rintro w' ⟨m, rfl⟩
  go_wp2_with fail
  go_ret
  exact ⟨rfl, below_then HBw.out HBw.out.size m.below⟩
end Go.Proofs.Ytjghkiphfpeocaa
