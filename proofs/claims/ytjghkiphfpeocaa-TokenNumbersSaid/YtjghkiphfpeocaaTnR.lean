/- token.Right at the tokens of TokenNumbers, kind by kind. -/
import Derived.Test.YtjghkiphfpeocaaTnQ
import Derived.BigQuiet
namespace Go.Proofs.Ytjghkiphfpeocaa
open Go.RowKit Go.BigFrame

def lowE (nm : ByteArray) : Bool := (S (lowL (B nm))).toList == nm.toList
def rightB (kd : Int) (nm : ByteArray) (al : List At) (sf : Bool) (tx : ByteArray) : Bool :=
  if kd = 1 then plainB true false false nm tx al.length sf && lowE nm
  else if kd = 2 then plainB true true false nm tx al.length sf && tagN nm && listN al
  else if kd = 3 then plainB true false false nm tx al.length sf && tagN nm
  else if kd = 4 then plainB false false true nm tx al.length sf && !decide (tx.size = 0)
  else if kd = 5 then plainB false false true nm tx al.length sf
  else if kd = 6 then plainB false false false nm tx al.length sf
  else false
abbrev tkC (kd : Int) (nm : ByteArray) (A : Option Addr) (n c : Nat) (sf : Bool) (tx : ByteArray) : Array Value := #[.int .i64 kd, .string nm, .slice A n c, .bool sf, .string tx]
set_option maxHeartbeats 4000000 in
theorem right_k5 (w : World) (nm tx : ByteArray) (A : Option Addr) (n c : Nat) (sf : Bool) :
    Calls Try.prog 23 #[.agg #[.int .i64 5, .string nm, .slice A n c, .bool sf, .string tx]] w fun e w' => e = .returned (.bool (plainB false false true nm tx n sf)) ∧ Below w.heap.size w w' := by
  have HB0 := Lib.hid (below_tokR w #[.int .i64 5, .string nm, .slice A n c, .bool sf, .string tx])
  have HC := Lib.hid (Blk.new w 34 #[.int .i64 5, .string nm, .slice A n c, .bool sf, .string tx] (0, 0))
  have k0 := HC.out.cell 0
  have k1 := HC.out.cell 1
  have k2 := HC.out.cell 2
  have k3 := HC.out.cell 3
  have k4 := HC.out.cell 4
  have HP := Lib.hid (fun w => plain_gen w false false true (.inr (.inr (.inl ⟨rfl, rfl, rfl⟩))) 5 nm tx A n c sf)
  generalize plainB false false true nm tx n sf = P at *
  go_enter Try.func23, Try.ntmps23
  go_wp2_with (first
    | (go_at_call 39
       with_reducible refine (HP.out _).mono ?_
       rintro e w1 ⟨rfl, b1⟩
       have HB1 := Lib.hid (below_then HB0.out HB0.out.size b1)
       have HC1 := Lib.hid (HC.out.keep b1)
       have m1 := HC1.out.cell 1
       have m2 := HC1.out.cell 2
       have m4 := HC1.out.cell 4
       clear b1))
  go_ret
  exact ⟨rfl, HB1.out⟩
set_option maxHeartbeats 4000000 in
theorem right_k6 (w : World) (nm tx : ByteArray) (A : Option Addr) (n c : Nat) (sf : Bool) :
    Calls Try.prog 23 #[.agg #[.int .i64 6, .string nm, .slice A n c, .bool sf, .string tx]] w fun e w' => e = .returned (.bool (plainB false false false nm tx n sf)) ∧ Below w.heap.size w w' := by
  have HB0 := Lib.hid (below_tokR w #[.int .i64 6, .string nm, .slice A n c, .bool sf, .string tx])
  have HC := Lib.hid (Blk.new w 34 #[.int .i64 6, .string nm, .slice A n c, .bool sf, .string tx] (0, 0))
  have k0 := HC.out.cell 0
  have k1 := HC.out.cell 1
  have k2 := HC.out.cell 2
  have k3 := HC.out.cell 3
  have k4 := HC.out.cell 4
  have HP := Lib.hid (fun w => plain_gen w false false false (.inr (.inr (.inr ⟨rfl, rfl, rfl⟩))) 6 nm tx A n c sf)
  generalize plainB false false false nm tx n sf = P at *
  go_enter Try.func23, Try.ntmps23
  go_wp2_with (first
    | (go_at_call 39
       with_reducible refine (HP.out _).mono ?_
       rintro e w1 ⟨rfl, b1⟩
       have HB1 := Lib.hid (below_then HB0.out HB0.out.size b1)
       have HC1 := Lib.hid (HC.out.keep b1)
       have m1 := HC1.out.cell 1
       have m2 := HC1.out.cell 2
       have m4 := HC1.out.cell 4
       clear b1))
  go_ret
  exact ⟨rfl, HB1.out⟩
set_option maxHeartbeats 4000000 in
theorem right_k4 (w : World) (nm tx : ByteArray) (A : Option Addr) (n c : Nat) (sf : Bool) :
    Calls Try.prog 23 #[.agg #[.int .i64 4, .string nm, .slice A n c, .bool sf, .string tx]] w fun e w' => e = .returned (.bool (plainB false false true nm tx n sf && !decide (tx.size = 0))) ∧ Below w.heap.size w w' := by
  have HB0 := Lib.hid (below_tokR w #[.int .i64 4, .string nm, .slice A n c, .bool sf, .string tx])
  have HC := Lib.hid (Blk.new w 34 #[.int .i64 4, .string nm, .slice A n c, .bool sf, .string tx] (0, 0))
  have k0 := HC.out.cell 0
  have k1 := HC.out.cell 1
  have k2 := HC.out.cell 2
  have k3 := HC.out.cell 3
  have k4 := HC.out.cell 4
  have HP := Lib.hid (fun w => plain_gen w false false true (.inr (.inr (.inl ⟨rfl, rfl, rfl⟩))) 4 nm tx A n c sf)
  generalize plainB false false true nm tx n sf = P at *
  cases P
  · go_enter Try.func23, Try.ntmps23
    go_wp2_with (first
      | (go_at_call 39
         with_reducible refine (HP.out _).mono ?_
         rintro e w1 ⟨rfl, b1⟩
         have HB1 := Lib.hid (below_then HB0.out HB0.out.size b1)
         have HC1 := Lib.hid (HC.out.keep b1)
         have m1 := HC1.out.cell 1
         have m2 := HC1.out.cell 2
         have m4 := HC1.out.cell 4
         clear b1))
    go_ret
    exact ⟨rfl, HB1.out⟩
  · by_cases ht : tx.size = 0
    · obtain rfl := size0 ht
      go_enter Try.func23, Try.ntmps23
      go_wp2_with (first
        | (go_at_call 39
           with_reducible refine (HP.out _).mono ?_
           rintro e w1 ⟨rfl, b1⟩
           have HB1 := Lib.hid (below_then HB0.out HB0.out.size b1)
           have HC1 := Lib.hid (HC.out.keep b1)
           have m1 := HC1.out.cell 1
           have m2 := HC1.out.cell 2
           have m4 := HC1.out.cell 4
           clear b1))
      go_ret
      exact ⟨rfl, HB1.out⟩
    · obtain ⟨t1, t2⟩ := list_ne ht
      rw [decide_eq_false ht]
      have t3 : (tx.toList != []) = true := by rw [bne, t1]; rfl
      clear ht
      go_enter Try.func23, Try.ntmps23
      go_wp2_with (first
        | (go_at_call 39
           with_reducible refine (HP.out _).mono ?_
           rintro e w1 ⟨rfl, b1⟩
           have HB1 := Lib.hid (below_then HB0.out HB0.out.size b1)
           have HC1 := Lib.hid (HC.out.keep b1)
           have m1 := HC1.out.cell 1
           have m2 := HC1.out.cell 2
           have m4 := HC1.out.cell 4
           clear b1))
      go_ret
      exact ⟨rfl, HB1.out⟩
set_option maxHeartbeats 4000000 in
theorem right_k3 (w : World) (nm tx : ByteArray) (A : Option Addr) (n c : Nat) (sf : Bool) (hn : nm ∈ names7) :
    Calls Try.prog 23 #[.agg #[.int .i64 3, .string nm, .slice A n c, .bool sf, .string tx]] w fun e w' => e = .returned (.bool (plainB true false false nm tx n sf && tagN nm)) ∧ Below w.heap.size w w' := by
  have HB0 := Lib.hid (below_tokR w #[.int .i64 3, .string nm, .slice A n c, .bool sf, .string tx])
  have HC := Lib.hid (Blk.new w 34 #[.int .i64 3, .string nm, .slice A n c, .bool sf, .string tx] (0, 0))
  have k0 := HC.out.cell 0
  have k1 := HC.out.cell 1
  have k2 := HC.out.cell 2
  have k3 := HC.out.cell 3
  have k4 := HC.out.cell 4
  have HP := Lib.hid (fun w => plain_gen w true false false (.inl ⟨rfl, rfl, rfl⟩) 3 nm tx A n c sf)
  have HN := Lib.hid (fun w => tag_gen nm hn w)
  generalize plainB true false false nm tx n sf = P at *
  generalize tagN nm = Q at *
  clear hn
  cases P
  · go_enter Try.func23, Try.ntmps23
    go_wp2_with (first
      | (go_at_call 39
         with_reducible refine (HP.out _).mono ?_
         rintro e w1 ⟨rfl, b1⟩
         have HB1 := Lib.hid (below_then HB0.out HB0.out.size b1)
         have HC1 := Lib.hid (HC.out.keep b1)
         have m1 := HC1.out.cell 1
         have m2 := HC1.out.cell 2
         have m4 := HC1.out.cell 4
         clear b1))
    go_ret
    exact ⟨rfl, HB1.out⟩
  · go_enter Try.func23, Try.ntmps23
    go_wp2_with (first
      | (go_at_call 39
         with_reducible refine (HP.out _).mono ?_
         rintro e w1 ⟨rfl, b1⟩
         have HB1 := Lib.hid (below_then HB0.out HB0.out.size b1)
         have HC1 := Lib.hid (HC.out.keep b1)
         have m1 := HC1.out.cell 1
         have m2 := HC1.out.cell 2
         have m4 := HC1.out.cell 4
         clear b1)
      | (go_at_call 41
         with_reducible refine (HN.out _).mono ?_
         rintro e w2 ⟨rfl, b2⟩
         have HB2 := Lib.hid (below_then HB1.out HB1.out.size b2)
         have HC2 := Lib.hid (HC1.out.keep b2)
         have p2 := HC2.out.cell 2
         clear b2))
    go_ret
    exact ⟨rfl, HB2.out⟩
set_option maxHeartbeats 4000000 in
theorem right_k2 (w : World) (nm tx : ByteArray) (A : Option Addr) (n c : Nat) (sf : Bool) (hn : nm ∈ names7) (al : List At) (hl : al ∈ lists4) (hln : al.length = n) (h : RdA w A n al) :
    Calls Try.prog 23 #[.agg #[.int .i64 2, .string nm, .slice A n c, .bool sf, .string tx]] w fun e w' => e = .returned (.bool (plainB true true false nm tx n sf && tagN nm && listN al)) ∧ Below w.heap.size w w' := by
  have HB0 := Lib.hid (below_tokR w #[.int .i64 2, .string nm, .slice A n c, .bool sf, .string tx])
  have HC := Lib.hid (Blk.new w 34 #[.int .i64 2, .string nm, .slice A n c, .bool sf, .string tx] (0, 0))
  have k0 := HC.out.cell 0
  have k1 := HC.out.cell 1
  have k2 := HC.out.cell 2
  have k3 := HC.out.cell 3
  have k4 := HC.out.cell 4
  have HP := Lib.hid (fun w => plain_gen w true true false (.inr (.inl ⟨rfl, rfl, rfl⟩)) 2 nm tx A n c sf)
  have HN := Lib.hid (fun w => tag_gen nm hn w)
  have HLs : Hid (∀ w1, Below w.heap.size w w1 → Calls Try.prog 42 #[.slice A n c] w1 fun e w' => e = .returned (.bool (listN al)) ∧ Below w1.heap.size w1 w') := fun w1 b1 => by
    subst hln
    exact listed_gen w1 A c al hl (h.keep b1)
  generalize plainB true true false nm tx n sf = P at *
  generalize tagN nm = Q at *
  generalize listN al = R at *
  clear hn hl h hln
  cases P
  · go_enter Try.func23, Try.ntmps23
    go_wp2_with (first
      | (go_at_call 39
         with_reducible refine (HP.out _).mono ?_
         rintro e w1 ⟨rfl, b1⟩
         have HB1 := Lib.hid (below_then HB0.out HB0.out.size b1)
         have HC1 := Lib.hid (HC.out.keep b1)
         have m1 := HC1.out.cell 1
         have m2 := HC1.out.cell 2
         have m4 := HC1.out.cell 4
         clear b1))
    go_ret
    exact ⟨rfl, HB1.out⟩
  · cases Q
    · go_enter Try.func23, Try.ntmps23
      go_wp2_with (first
        | (go_at_call 39
           with_reducible refine (HP.out _).mono ?_
           rintro e w1 ⟨rfl, b1⟩
           have HB1 := Lib.hid (below_then HB0.out HB0.out.size b1)
           have HC1 := Lib.hid (HC.out.keep b1)
           have m1 := HC1.out.cell 1
           have m2 := HC1.out.cell 2
           have m4 := HC1.out.cell 4
           clear b1)
        | (go_at_call 41
           with_reducible refine (HN.out _).mono ?_
           rintro e w2 ⟨rfl, b2⟩
           have HB2 := Lib.hid (below_then HB1.out HB1.out.size b2)
           have HC2 := Lib.hid (HC1.out.keep b2)
           have p2 := HC2.out.cell 2
           clear b2))
      go_ret
      exact ⟨rfl, HB2.out⟩
    · go_enter Try.func23, Try.ntmps23
      go_wp2_with (first
        | (go_at_call 39
           with_reducible refine (HP.out _).mono ?_
           rintro e w1 ⟨rfl, b1⟩
           have HB1 := Lib.hid (below_then HB0.out HB0.out.size b1)
           have HC1 := Lib.hid (HC.out.keep b1)
           have m1 := HC1.out.cell 1
           have m2 := HC1.out.cell 2
           have m4 := HC1.out.cell 4
           clear b1)
        | (go_at_call 41
           with_reducible refine (HN.out _).mono ?_
           rintro e w2 ⟨rfl, b2⟩
           have HB2 := Lib.hid (below_then HB1.out HB1.out.size b2)
           have HC2 := Lib.hid (HC1.out.keep b2)
           have p2 := HC2.out.cell 2
           clear b2)
        | (go_at_call 42
           with_reducible refine (HLs.out _ HB2.out).mono ?_
           rintro e w3 ⟨rfl, b3⟩
           have HB3 := Lib.hid (below_then HB2.out HB2.out.size b3)
           clear b3))
      go_ret
      exact ⟨rfl, HB3.out⟩
set_option maxHeartbeats 4000000 in
theorem right_k0 (w : World) (nm tx : ByteArray) (A : Option Addr) (n c : Nat) (sf : Bool) (kd : Int) (q1 : kd ≠ 1) (q2 : kd ≠ 2) (q3 : kd ≠ 3) (q4 : kd ≠ 4) (q5 : kd ≠ 5) (q6 : kd ≠ 6) :
    Calls Try.prog 23 #[.agg #[.int .i64 kd, .string nm, .slice A n c, .bool sf, .string tx]] w fun e w' => e = .returned (.bool (false)) ∧ Below w.heap.size w w' := by
  have HB0 := Lib.hid (below_tokR w #[.int .i64 kd, .string nm, .slice A n c, .bool sf, .string tx])
  have HC := Lib.hid (Blk.new w 34 #[.int .i64 kd, .string nm, .slice A n c, .bool sf, .string tx] (0, 0))
  have k0 := HC.out.cell 0
  have k1 := HC.out.cell 1
  have k2 := HC.out.cell 2
  have k3 := HC.out.cell 3
  have k4 := HC.out.cell 4
  have z1 : (kd == 1) = false := beq_eq_false_iff_ne.2 q1
  have z2 : (kd == 2) = false := beq_eq_false_iff_ne.2 q2
  have z3 : (kd == 3) = false := beq_eq_false_iff_ne.2 q3
  have z4 : (kd == 4) = false := beq_eq_false_iff_ne.2 q4
  have z5 : (kd == 5) = false := beq_eq_false_iff_ne.2 q5
  have z6 : (kd == 6) = false := beq_eq_false_iff_ne.2 q6
  clear q1 q2 q3 q4 q5 q6
  go_enter Try.func23, Try.ntmps23
  go_wp2_with fail
  go_ret
  exact ⟨rfl, HB0.out⟩
set_option maxHeartbeats 4000000 in
theorem right_k1 (w : World) (nm tx : ByteArray) (A : Option Addr) (n c : Nat) (sf : Bool) (hs : nm.size ≤ 65536) :
    Calls Try.prog 23 #[.agg #[.int .i64 1, .string nm, .slice A n c, .bool sf, .string tx]] w fun e w' => e = .returned (.bool (plainB true false false nm tx n sf && lowE nm)) ∧ Below w.heap.size w w' := by
  have HB0 := Lib.hid (below_tokR w #[.int .i64 1, .string nm, .slice A n c, .bool sf, .string tx])
  have HC := Lib.hid (Blk.new w 34 #[.int .i64 1, .string nm, .slice A n c, .bool sf, .string tx] (0, 0))
  have k0 := HC.out.cell 0
  have k1 := HC.out.cell 1
  have k2 := HC.out.cell 2
  have k3 := HC.out.cell 3
  have k4 := HC.out.cell 4
  have HP := Lib.hid (fun w => plain_gen w true false false (.inl ⟨rfl, rfl, rfl⟩) 1 nm tx A n c sf)
  have HLw := Lib.hid (fun w => lower_any nm w (by omega))
  have hle : Hid (lowE nm = ((S (lowL (B nm))).toList == nm.toList)) := rfl
  generalize lowE nm = LE at *
  obtain ⟨le, hle2⟩ : ∃ le, ((S (lowL (B nm))).toList == nm.toList) = le := ⟨_, rfl⟩
  have hLE : LE = le := hle.out.trans hle2
  subst hLE
  generalize plainB true false false nm tx n sf = P at *
  clear hs hle
  obtain ⟨wr, hwr⟩ : ∃ wr, wr = w.alloc (.cells #[.int .i64 1, .string nm, .slice A n c, .bool sf, .string tx] 34) := ⟨_, rfl⟩
  have HWR := Lib.hid hwr
  have hks : ∀ m : After wr, m.W.cell? ⟨w.heap.size, 0, none⟩ = some (.int .i64 1) ∧ m.W.cell? ⟨w.heap.size, 1, none⟩ = some (.string nm) ∧ m.W.cell? ⟨w.heap.size, 2, none⟩ = some (.slice A n c) ∧ m.W.cell? ⟨w.heap.size, 3, none⟩ = some (.bool sf) ∧ m.W.cell? ⟨w.heap.size, 4, none⟩ = some (.string tx) := fun m => by
    have hc := HC.out
    rw [← hwr] at hc
    have hc2 := hc.keep m.below
    exact ⟨hc2.cell 0, hc2.cell 1, hc2.cell 2, hc2.cell 3, hc2.cell 4⟩
  have KS := Lib.hid hks
  have HBw := HB0
  rw [← hwr] at HBw
  clear hks hwr
  cases P
  all_goals
    go_enter Try.func23, Try.ntmps23
    go_upto_region 3 with (fail)
    rw [← HWR.out]
    clear k0 k1 k2 k3 k4
    have j0 := fun m => (KS.out m).1
    have j1 := fun m => (KS.out m).2.1
    have j2 := fun m => (KS.out m).2.2.1
    have j3 := fun m => (KS.out m).2.2.2.1
    have j4 := fun m => (KS.out m).2.2.2.2
    refine wp_region_after (by kernel_rfl) (by kernel_rfl) ?_
    repeat (any_goals (go_big_quiet_step (first
      | (go_at_call 39; with_reducible exact call_after (HP.out _))
      | (go_at_call 40; with_reducible exact call_after (HLw.out _)))))
    refine wpQuiet_nil ?_
    rintro w' ⟨m, rfl⟩
    go_wp2_with fail
    go_ret
    exact ⟨rfl, below_then HBw.out HBw.out.size m.below⟩
end Go.Proofs.Ytjghkiphfpeocaa
