/- UtfNumbers. -/
import Derived.Test.YtpdbbpmkdkjppaaDoorUtfJoins
namespace Go.Proofs.YtpdbbpmkdkjppaaDoor
open Go.RowKit

/-- append onto a row that the call made, under a guard. -/
theorem append_wanted {P : Program} (w1 w : World) {ops : Array Oper} {rest : List Oper} {o : Oper} {a : Act} {Q : Exit → Act → World → Prop} (hgd : Region.wanted o (yielded ops a.tmps) = true) (s x : Operand) (t : TypeId)
    (ho : o.op = .call { callee := .builtin .append, args := #[s, x], argTypes := #[t, t] })
    (e : TypeId) (i : TypeInfo) (z : Value) (size bytes : Nat) (ht : P.underlying t = some (.slice e)) (hi : P.info? e = some i) (hz : i.zero = some z)
    (hsize : i.size = size) (hby : i.bytes = bytes) (hzs : z.cells.size = size) (hsz : 0 < size) (v : Value) (n : Nat) (xs : List Value) (hs : a.eval s = v) (hown : w.ownsRow w1.heap.size e size v n xs)
    (A : Option Addr) (m c : Nat) (news : List Value) (hx : a.eval x = .slice A m c) (hr : Rd w A m size news) (h63 : n + m ≤ maxLen) (hbytes : (n + m) * bytes ≤ 140737488355328) (hB : Below w1.heap.size w1 w)
    (h : ∀ v' w', w'.ownsRow w1.heap.size e size v' (n + m) (xs ++ news) → Below w1.heap.size w1 w' → w.grownBy w' v.ownBlock → wpList P ops Q rest (a.put o.dst v') w') :
    wpList P ops Q (o :: rest) a w := by
  refine wpList_step fun K hK => ?_
  rw [if_pos hgd]
  obtain ⟨v', w', hr', h2, h3, _⟩ := run_append_any (P := P) w t o.type w1.heap.size e i z size bytes ht hi hz hsize hby hzs hsz v n xs hown A m c news hr h63 hbytes hB.size
  unfold Oper.wp execOp
  simp only [ho, resolve, invoke, builtin, Sem.run_bind, Sem.run_pure, Result.andThen_ok, List.map_toArray, List.map_cons, List.map_nil, hs, hx, hr']
  exact hK _ _ (h v' w' h2 (made_grown hB h3 (fun k hk => (hown.lt k hk).1)) h3)
def seconds : List Int := [-1, 0, 127, 128, 143, 144, 159, 160, 191, 192, 255]
theorem seconds_in : ∀ z ∈ seconds, -1 ≤ z ∧ z ≤ 255 := by decide
theorem lit_one (w : World) (k : Nat) (hk : k < 256) : RdB (w.alloc (.cells #[.int .u8 (k : Int)] 5)) (some ⟨w.heap.size, 0, none⟩) 1 [UInt8.ofNat k] := by
  have h := rdB_lit w [UInt8.ofNat k] (by simp)
  have e : ([UInt8.ofNat k].flatMap enc_b).toArray = #[.int .u8 (k : Int)] := by
    show #[Value.int .u8 ((UInt8.ofNat k).toNat : Int)] = _
    rw [ofNat_nat hk]
  rw [e] at h
  exact h
theorem wrap_u8 {z : Int} (h0 : 0 ≤ z) (h1 : z < 256) : IntKind.u8.wrap z = z := by
  simp [IntKind.wrap, IntKind.bits, IntKind.signed]
  omega

set_option maxHeartbeats 4000000 in
set_option maxRecDepth 100000 in
theorem walk_UtfNumbers (W : World) (hT : Tabs W) :
    Calls Tryd.prog 3 #[] W fun e w' => e = .returned (.bool true) ∧ Below W.heap.size W w' := by
  obtain ⟨ib, hib, hzb0, hzb1, hzb2⟩ := info_parts info_byteU
  have HT := Lib.hid hT
  clear hT
  go_enter Tryd.func3, Tryd.ntmps3
  go_wp2_with fail
  go_loopw [1] (fun iv wr => ∃ i : Nat, i ≤ 256 ∧ iv = .int .i64 i ∧ Below W.heap.size W wr) (fun iv _ => 256 - (intOf iv).toNat)
  case atStart => exact ⟨0, by omega, rfl, Below.refl _ _⟩
  case round =>
    obtain ⟨i, hi, rfl, hb⟩ := hrel
    have HB := Lib.hid hb
    clear hb
    by_cases hlt : i < 256
    · have d0 : decide ((i : Int) < 256) = true := decide_eq_true (by omega)
      have s1 : IntKind.i64.wrap ((i : Int) + 1) = (i : Int) + 1 := IntWalk.i64_in _ (by omega)
      have s2 : IntKind.u8.wrap (i : Int) = (i : Int) := wrap_u8 (by omega) (by omega)
      obtain ⟨wo, hwo⟩ : ∃ wo : World, wo = wr := ⟨_, rfl⟩
      subst hwo
      have hl := Blk.new wo 3 (seconds.map (Value.int .i64)).toArray (0, 0)
      have HL := Lib.hid hl
      have HBL := Lib.hid (HB.out.alloc HB.out.size (.cells (seconds.map (Value.int .i64)).toArray 3))
      clear hl
      go_wp2_with fail
      go_loopw [11] (fun jv wr => ∃ j : Nat, j ≤ 11 ∧ jv = .int .i64 j ∧ Below W.heap.size W wr ∧ Below (wo.alloc (.cells (seconds.map (Value.int .i64)).toArray 3)).heap.size (wo.alloc (.cells (seconds.map (Value.int .i64)).toArray 3)) wr) (fun jv _ => 11 - (intOf jv).toNat)
      case atStart => exact ⟨0, by omega, rfl, HBL.out, Below.refl _ _⟩
      case round =>
        obtain ⟨j, hj, rfl, hb, hbo⟩ := hrel
        have HBi := Lib.hid hb
        have HBo := Lib.hid hbo
        have HUP : Hid (∀ w', Below wr.heap.size wr w' → Below W.heap.size W w') := fun w' h => HBi.out.trans (h.mono HBi.out.size)
        clear hb hbo
        by_cases hjl : j < 11
        · have d1 : decide ((j : Int) < 11) = true := decide_eq_true (by omega)
          have s3 : IntKind.i64.wrap ((j : Int) + 1) = (j : Int) + 1 := IntWalk.i64_in _ (by omega)
          obtain ⟨z, hz⟩ : ∃ z, seconds[j]? = some z := ⟨_, List.getElem?_eq_getElem (by show j < 11; exact hjl)⟩
          obtain ⟨z0, z1⟩ := seconds_in z (List.mem_of_getElem? hz)
          have k1 : wr.cell? ⟨wo.heap.size, j, none⟩ = some (.int .i64 z) := by
            rw [(HL.out.keep HBo.out).cell j, List.getElem?_toArray, List.getElem?_map, hz]
            rfl
          clear hz
          by_cases hzn : 0 ≤ z
          · have d2 : decide (0 ≤ z) = true := decide_eq_true hzn
            have s4 : IntKind.u8.wrap z = z := wrap_u8 hzn (by omega)
            obtain ⟨q, rfl⟩ : ∃ q : Nat, z = q := ⟨z.toNat, by omega⟩
            have hrow : ((wr.alloc (.cells #[.int .u8 (i : Int)] 5)).alloc (.cells #[.int .u8 (q : Int)] 5)).ownsRow wr.heap.size 5 1 (.slice (some ⟨wr.heap.size, 0, none⟩) 1 1) 1 [.int .u8 (i : Int)] :=
              own_of_blk (rest := []) (Nat.le_refl _) ((Blk.new wr 5 #[.int .u8 (i : Int)] (0, 0)).alloc _) rfl (Nat.le_refl _) (by decide) rfl
            have hbr : Below wr.heap.size wr ((wr.alloc (.cells #[.int .u8 (i : Int)] 5)).alloc (.cells #[.int .u8 (q : Int)] 5)) := ((Below.refl _ _).alloc (Nat.le_refl _) _).alloc (by simp) _
            have HROW := Lib.hid hrow
            have HBR := Lib.hid hbr
            have hrd := rd_one_b (wr.alloc (.cells #[.int .u8 (i : Int)] 5)) (q : Int)
            have HRD := Lib.hid (show Rd ((wr.alloc (.cells #[.int .u8 (i : Int)] 5)).alloc (.cells #[.int .u8 (q : Int)] 5)) (some ⟨wr.heap.size + 1, 0, none⟩) 1 1 [.int .u8 (q : Int)] by simpa using hrd)
            have hq8 : q < 256 := by omega
            clear hrow hbr hrd
            go_wp2_with (first
              | (at_builtin
                 refine append_made wr _ rfl (.tmp 20) (.tmp 23) _ rfl 5 ib _ 1 1 Tryd.underlying23 hib hzb0 hzb1 hzb2 rfl (by omega) _ _ _ rfl HROW.out (some ⟨wr.heap.size + 1, 0, none⟩) 1 1 _ rfl HRD.out (by simp only [maxLen]; omega) (by omega) HBR.out ?_
                 intro vx wx hownx hbx hgx
                 have hox : OwnB wx wr.heap.size vx [UInt8.ofNat i, UInt8.ofNat q] := by
                   unfold OwnB
                   have e : Lib.byteCells [UInt8.ofNat i, UInt8.ofNat q] = [.int .u8 (i : Int), .int .u8 (q : Int)] := by
                     show [Value.int .u8 ((UInt8.ofNat i).toNat : Int), Value.int .u8 ((UInt8.ofNat q).toNat : Int)] = _
                     rw [ofNat_nat (by omega), ofNat_nat hq8]
                   rw [e]
                   exact hownx
                 obtain ⟨Ax, cx, ex, hrx⟩ := hox.rd
                 have ex' : vx = .slice Ax 2 cx := ex
                 subst ex'
                 have HX := Lib.hid hrx
                 have HBX := Lib.hid hbx
                 have hs8 := same_any wx Ax cx _ hrx (by simp) (HT.out.keep (HUP.out _ HBX.out))
                 have HS1 := Lib.hid (show Calls Tryd.prog 8 #[.slice Ax 2 cx] wx fun e w' => e = .returned (.bool true) ∧ Below wx.heap.size wx w' from hs8)
                 clear hs8
                 clear hownx hbx hgx hox hrx ex)
              | (go_at_call 8
                 with_reducible refine HS1.out.mono ?_
                 rintro e w1 ⟨rfl, hb1⟩
                 have HB1 := Lib.hid (HBX.out.trans (hb1.mono HBX.out.size))
                 have HX1 := Lib.hid (HX.out.keep hb1)
                 have hb1a : Below w1.heap.size w1 (w1.alloc (.cells #[] 5)) := (Below.refl _ _).alloc (Nat.le_refl _) _
                 have HB1a := Lib.hid hb1a
                 have HM1 := Lib.hid (made_new w1 w1 5 1 (Below.refl _ _))
                 have HR1 := Lib.hid (show Rd (w1.alloc (.cells #[] 5)) (Ax) 2 1 (([UInt8.ofNat i, UInt8.ofNat q]).flatMap enc_b) from (HX1.out.keep hb1a).1)
                 clear hb1 hb1a HS1)
              | (at_builtin
                 refine append_wanted w1 _ rfl (.tmp 29) (.tmp 30) _ rfl 5 ib _ 1 1 Tryd.underlying23 hib hzb0 hzb1 hzb2 rfl (by omega) _ _ _ rfl HM1.out (Ax) 2 (cx) _ rfl HR1.out (by simp only [maxLen]; omega) (by omega) HB1a.out ?_
                 intro v2 w2 hown2 hb2 hg2
                 rw [Nat.zero_add, List.nil_append] at hown2
                 have HO2 := Lib.hid (owns_alloc hown2 (.cells #[.int .u8 128] 5))
                 have HB2 := Lib.hid (hb2.alloc hb2.size (.cells #[.int .u8 128] 5))
                 have HRD2 := Lib.hid (rd_one_b w2 128)
                 clear hown2 hb2 hg2)
              | (at_builtin
                 refine append_wanted w1 _ rfl (.tmp 31) (.tmp 32) _ rfl 5 ib _ 1 1 Tryd.underlying23 hib hzb0 hzb1 hzb2 rfl (by omega) _ _ _ rfl HO2.out (some ⟨w2.heap.size, 0, none⟩) 1 1 _ rfl HRD2.out (by simp only [maxLen]; omega) (by omega) HB2.out ?_
                 intro v3 w3 hown3 hb3 hg3
                 have hox : OwnB w3 w1.heap.size v3 (([UInt8.ofNat i, UInt8.ofNat q]) ++ [128]) := by
                   unfold OwnB
                   rw [← row_b, List.flatMap_append]
                   exact hown3
                 obtain ⟨A3, c3, e3, hr3⟩ := hox.rd
                 have e3' : v3 = .slice A3 (2 + 1) c3 := e3
                 subst e3'
                 have HB3 := Lib.hid (HB1.out.trans (hb3.mono HB1.out.size))
                 have hs1 := same_any w3 A3 c3 _ hr3 (by simp) (HT.out.keep (HUP.out _ HB3.out))
                 have HS2 := Lib.hid (show Calls Tryd.prog 8 #[.slice A3 (2 + 1) c3] w3 fun e w' => e = .returned (.bool true) ∧ Below w3.heap.size w3 w' from hs1)
                 clear hs1
                 have HX3 := Lib.hid (HX1.out.keep hb3)
                 clear hown3 hb3 hg3 hox hr3 e3)
              | (go_at_call 8
                 with_reducible refine HS2.out.mono ?_
                 rintro e w4 ⟨rfl, hb4⟩
                 have HB4 := Lib.hid (HB3.out.trans (hb4.mono HB3.out.size))
                 have HX4 := Lib.hid (HX3.out.keep hb4)
                 have hb4a : Below w4.heap.size w4 (w4.alloc (.cells #[] 5)) := (Below.refl _ _).alloc (Nat.le_refl _) _
                 have HB4a := Lib.hid hb4a
                 have HM4 := Lib.hid (made_new w4 w4 5 1 (Below.refl _ _))
                 have HR4 := Lib.hid (show Rd (w4.alloc (.cells #[] 5)) (Ax) 2 1 (([UInt8.ofNat i, UInt8.ofNat q]).flatMap enc_b) from (HX4.out.keep hb4a).1)
                 clear hb4 hb4a HS2)
              | (at_builtin
                 refine append_wanted w4 _ rfl (.tmp 38) (.tmp 39) _ rfl 5 ib _ 1 1 Tryd.underlying23 hib hzb0 hzb1 hzb2 rfl (by omega) _ _ _ rfl HM4.out (Ax) 2 (cx) _ rfl HR4.out (by simp only [maxLen]; omega) (by omega) HB4a.out ?_
                 intro v5 w5 hown5 hb5 hg5
                 rw [Nat.zero_add, List.nil_append] at hown5
                 have HO5 := Lib.hid (owns_alloc hown5 (.cells #[.int .u8 128, .int .u8 191, .int .u8 122] 5))
                 have HB5 := Lib.hid (hb5.alloc hb5.size (.cells #[.int .u8 128, .int .u8 191, .int .u8 122] 5))
                 have HRD5 := Lib.hid (show Rd (w5.alloc (.cells #[.int .u8 128, .int .u8 191, .int .u8 122] 5)) (some ⟨w5.heap.size, 0, none⟩) 3 1 [.int .u8 128, .int .u8 191, .int .u8 122] from (rdB_lit w5 [128, 191, 122] (by decide)).1)
                 clear hown5 hb5 hg5)
              | (at_builtin
                 refine append_wanted w4 _ rfl (.tmp 40) (.tmp 41) _ rfl 5 ib _ 1 1 Tryd.underlying23 hib hzb0 hzb1 hzb2 rfl (by omega) _ _ _ rfl HO5.out (some ⟨w5.heap.size, 0, none⟩) 3 3 _ rfl HRD5.out (by simp only [maxLen]; omega) (by omega) HB5.out ?_
                 intro v6 w6 hown6 hb6 hg6
                 have hox : OwnB w6 w4.heap.size v6 (([UInt8.ofNat i, UInt8.ofNat q]) ++ [128, 191, 122]) := by
                   unfold OwnB
                   rw [← row_b, List.flatMap_append]
                   exact hown6
                 obtain ⟨A6, c6, e6, hr6⟩ := hox.rd
                 have e6' : v6 = .slice A6 (2 + 3) c6 := e6
                 subst e6'
                 have HB6 := Lib.hid (HB4.out.trans (hb6.mono HB4.out.size))
                 have hs2 := same_any w6 A6 c6 _ hr6 (by simp) (HT.out.keep (HUP.out _ HB6.out))
                 have HS3 := Lib.hid (show Calls Tryd.prog 8 #[.slice A6 (2 + 3) c6] w6 fun e w' => e = .returned (.bool true) ∧ Below w6.heap.size w6 w' from hs2)
                 clear hs2
                 clear hown6 hb6 hg6 hox hr6 e6)
              | (go_at_call 8
                 with_reducible refine HS3.out.mono ?_
                 rintro e w7 ⟨rfl, hb7⟩
                 have HB7 := Lib.hid (HB6.out.trans (hb7.mono HB6.out.size))
                 clear hb7))
            exact ⟨⟨j + 1, by omega, by go_num, HUP.out _ HB7.out, HBo.out.trans (HB7.out.mono HBo.out.size)⟩, by simp [intOf]; omega⟩
          · have d2 : decide (0 ≤ z) = false := decide_eq_false hzn
            have hb2 : Below wr.heap.size wr (wr.alloc (.cells #[.int .u8 (i : Int)] 5)) := (Below.refl _ _).alloc (Nat.le_refl _) _
            have HBX := Lib.hid hb2
            have HX := Lib.hid (lit_one wr i (by omega))
            have hs3 := same_any _ _ 1 [UInt8.ofNat i] HX.out (by simp) (HT.out.keep (HUP.out _ HBX.out))
            have HS1 := Lib.hid (show Calls Tryd.prog 8 #[.slice (some ⟨wr.heap.size, 0, none⟩) 1 1] (wr.alloc (.cells #[.int .u8 (i : Int)] 5)) fun e w' => e = .returned (.bool true) ∧ Below (wr.alloc (.cells #[.int .u8 (i : Int)] 5)).heap.size (wr.alloc (.cells #[.int .u8 (i : Int)] 5)) w' from hs3)
            clear hs3
            clear hb2
            go_wp2_with (first
              | (go_at_call 8
                 with_reducible refine HS1.out.mono ?_
                 rintro e w1 ⟨rfl, hb1⟩
                 have HB1 := Lib.hid (HBX.out.trans (hb1.mono HBX.out.size))
                 have HX1 := Lib.hid (HX.out.keep hb1)
                 have hb1a : Below w1.heap.size w1 (w1.alloc (.cells #[] 5)) := (Below.refl _ _).alloc (Nat.le_refl _) _
                 have HB1a := Lib.hid hb1a
                 have HM1 := Lib.hid (made_new w1 w1 5 1 (Below.refl _ _))
                 have HR1 := Lib.hid (show Rd (w1.alloc (.cells #[] 5)) (some ⟨wr.heap.size, 0, none⟩) 1 1 (([UInt8.ofNat i]).flatMap enc_b) from (HX1.out.keep hb1a).1)
                 clear hb1 hb1a HS1)
              | (at_builtin
                 refine append_wanted w1 _ rfl (.tmp 29) (.tmp 30) _ rfl 5 ib _ 1 1 Tryd.underlying23 hib hzb0 hzb1 hzb2 rfl (by omega) _ _ _ rfl HM1.out (some ⟨wr.heap.size, 0, none⟩) 1 (1) _ rfl HR1.out (by simp only [maxLen]; omega) (by omega) HB1a.out ?_
                 intro v2 w2 hown2 hb2 hg2
                 rw [Nat.zero_add, List.nil_append] at hown2
                 have HO2 := Lib.hid (owns_alloc hown2 (.cells #[.int .u8 128] 5))
                 have HB2 := Lib.hid (hb2.alloc hb2.size (.cells #[.int .u8 128] 5))
                 have HRD2 := Lib.hid (rd_one_b w2 128)
                 clear hown2 hb2 hg2)
              | (at_builtin
                 refine append_wanted w1 _ rfl (.tmp 31) (.tmp 32) _ rfl 5 ib _ 1 1 Tryd.underlying23 hib hzb0 hzb1 hzb2 rfl (by omega) _ _ _ rfl HO2.out (some ⟨w2.heap.size, 0, none⟩) 1 1 _ rfl HRD2.out (by simp only [maxLen]; omega) (by omega) HB2.out ?_
                 intro v3 w3 hown3 hb3 hg3
                 have hox : OwnB w3 w1.heap.size v3 (([UInt8.ofNat i]) ++ [128]) := by
                   unfold OwnB
                   rw [← row_b, List.flatMap_append]
                   exact hown3
                 obtain ⟨A3, c3, e3, hr3⟩ := hox.rd
                 have e3' : v3 = .slice A3 (1 + 1) c3 := e3
                 subst e3'
                 have HB3 := Lib.hid (HB1.out.trans (hb3.mono HB1.out.size))
                 have hs1 := same_any w3 A3 c3 _ hr3 (by simp) (HT.out.keep (HUP.out _ HB3.out))
                 have HS2 := Lib.hid (show Calls Tryd.prog 8 #[.slice A3 (1 + 1) c3] w3 fun e w' => e = .returned (.bool true) ∧ Below w3.heap.size w3 w' from hs1)
                 clear hs1
                 have HX3 := Lib.hid (HX1.out.keep hb3)
                 clear hown3 hb3 hg3 hox hr3 e3)
              | (go_at_call 8
                 with_reducible refine HS2.out.mono ?_
                 rintro e w4 ⟨rfl, hb4⟩
                 have HB4 := Lib.hid (HB3.out.trans (hb4.mono HB3.out.size))
                 have HX4 := Lib.hid (HX3.out.keep hb4)
                 have hb4a : Below w4.heap.size w4 (w4.alloc (.cells #[] 5)) := (Below.refl _ _).alloc (Nat.le_refl _) _
                 have HB4a := Lib.hid hb4a
                 have HM4 := Lib.hid (made_new w4 w4 5 1 (Below.refl _ _))
                 have HR4 := Lib.hid (show Rd (w4.alloc (.cells #[] 5)) (some ⟨wr.heap.size, 0, none⟩) 1 1 (([UInt8.ofNat i]).flatMap enc_b) from (HX4.out.keep hb4a).1)
                 clear hb4 hb4a HS2)
              | (at_builtin
                 refine append_wanted w4 _ rfl (.tmp 38) (.tmp 39) _ rfl 5 ib _ 1 1 Tryd.underlying23 hib hzb0 hzb1 hzb2 rfl (by omega) _ _ _ rfl HM4.out (some ⟨wr.heap.size, 0, none⟩) 1 (1) _ rfl HR4.out (by simp only [maxLen]; omega) (by omega) HB4a.out ?_
                 intro v5 w5 hown5 hb5 hg5
                 rw [Nat.zero_add, List.nil_append] at hown5
                 have HO5 := Lib.hid (owns_alloc hown5 (.cells #[.int .u8 128, .int .u8 191, .int .u8 122] 5))
                 have HB5 := Lib.hid (hb5.alloc hb5.size (.cells #[.int .u8 128, .int .u8 191, .int .u8 122] 5))
                 have HRD5 := Lib.hid (show Rd (w5.alloc (.cells #[.int .u8 128, .int .u8 191, .int .u8 122] 5)) (some ⟨w5.heap.size, 0, none⟩) 3 1 [.int .u8 128, .int .u8 191, .int .u8 122] from (rdB_lit w5 [128, 191, 122] (by decide)).1)
                 clear hown5 hb5 hg5)
              | (at_builtin
                 refine append_wanted w4 _ rfl (.tmp 40) (.tmp 41) _ rfl 5 ib _ 1 1 Tryd.underlying23 hib hzb0 hzb1 hzb2 rfl (by omega) _ _ _ rfl HO5.out (some ⟨w5.heap.size, 0, none⟩) 3 3 _ rfl HRD5.out (by simp only [maxLen]; omega) (by omega) HB5.out ?_
                 intro v6 w6 hown6 hb6 hg6
                 have hox : OwnB w6 w4.heap.size v6 (([UInt8.ofNat i]) ++ [128, 191, 122]) := by
                   unfold OwnB
                   rw [← row_b, List.flatMap_append]
                   exact hown6
                 obtain ⟨A6, c6, e6, hr6⟩ := hox.rd
                 have e6' : v6 = .slice A6 (1 + 3) c6 := e6
                 subst e6'
                 have HB6 := Lib.hid (HB4.out.trans (hb6.mono HB4.out.size))
                 have hs2 := same_any w6 A6 c6 _ hr6 (by simp) (HT.out.keep (HUP.out _ HB6.out))
                 have HS3 := Lib.hid (show Calls Tryd.prog 8 #[.slice A6 (1 + 3) c6] w6 fun e w' => e = .returned (.bool true) ∧ Below w6.heap.size w6 w' from hs2)
                 clear hs2
                 clear hown6 hb6 hg6 hox hr6 e6)
              | (go_at_call 8
                 with_reducible refine HS3.out.mono ?_
                 rintro e w7 ⟨rfl, hb7⟩
                 have HB7 := Lib.hid (HB6.out.trans (hb7.mono HB6.out.size))
                 clear hb7))
            exact ⟨⟨j + 1, by omega, by go_num, HUP.out _ HB7.out, HBo.out.trans (HB7.out.mono HBo.out.size)⟩, by simp [intOf]; omega⟩
        · obtain rfl : j = 11 := by omega
          go_wp2_with fail
          exact ⟨⟨i + 1, by omega, by go_num, HBi.out⟩, by simp [intOf]; omega⟩
    · obtain rfl : i = 256 := by omega
      have hs4 := same_any wr none 0 [] (RdB.nil wr none 0 (by decide)) (by simp) (HT.out.keep HB.out)
      have HN := Lib.hid (show Calls Tryd.prog 8 #[.slice none 0 0] wr fun e w' => e = .returned (.bool true) ∧ Below wr.heap.size wr w' from hs4)
      clear hs4
      go_wp2_with (first
        | (go_at_call 8
           with_reducible refine HN.out.mono ?_
           rintro e w1 ⟨rfl, hb1⟩
           have HB1 := Lib.hid (HB.out.trans (hb1.mono HB.out.size))
           have hl := rdB_lit w1 [239, 187, 191, 239, 187, 191] (by decide)
           have hb1a := HB1.out.alloc HB1.out.size (.cells #[.int .u8 239, .int .u8 187, .int .u8 191, .int .u8 239, .int .u8 187, .int .u8 191] 5)
           have HB1a := Lib.hid hb1a
           have hs5 := same_any _ _ _ _ hl (by simp) (HT.out.keep hb1a)
           have H6 := Lib.hid (show Calls Tryd.prog 8 #[.slice (some ⟨w1.heap.size, 0, none⟩) 6 6] (w1.alloc (.cells #[.int .u8 239, .int .u8 187, .int .u8 191, .int .u8 239, .int .u8 187, .int .u8 191] 5)) fun e w' => e = .returned (.bool true) ∧ Below (w1.alloc (.cells #[.int .u8 239, .int .u8 187, .int .u8 191, .int .u8 239, .int .u8 187, .int .u8 191] 5)).heap.size (w1.alloc (.cells #[.int .u8 239, .int .u8 187, .int .u8 191, .int .u8 239, .int .u8 187, .int .u8 191] 5)) w' from hs5)
           clear hs5
           clear hb1 hl hb1a HN)
        | (go_at_call 8
           with_reducible refine H6.out.mono ?_
           rintro e w2 ⟨rfl, hb2⟩
           have HB2 := Lib.hid (HB1a.out.trans (hb2.mono HB1a.out.size))
           have hl := rdB_lit w2 [239, 187] (by decide)
           have hb2a := HB2.out.alloc HB2.out.size (.cells #[.int .u8 239, .int .u8 187] 5)
           have HB2a := Lib.hid hb2a
           have hs6 := same_any _ _ _ _ hl (by simp) (HT.out.keep hb2a)
           have H2 := Lib.hid (show Calls Tryd.prog 8 #[.slice (some ⟨w2.heap.size, 0, none⟩) 2 2] (w2.alloc (.cells #[.int .u8 239, .int .u8 187] 5)) fun e w' => e = .returned (.bool true) ∧ Below (w2.alloc (.cells #[.int .u8 239, .int .u8 187] 5)).heap.size (w2.alloc (.cells #[.int .u8 239, .int .u8 187] 5)) w' from hs6)
           clear hs6
           clear hb2 hl hb2a H6)
        | (go_at_call 8
           with_reducible refine H2.out.mono ?_
           rintro e w3 ⟨rfl, hb3⟩
           have HB3 := Lib.hid (HB2a.out.trans (hb3.mono HB2a.out.size))
           have hl := rdB_lit w3 [0, 13, 10, 13, 0] (by decide)
           have hb3a := HB3.out.alloc HB3.out.size (.cells #[.int .u8 0, .int .u8 13, .int .u8 10, .int .u8 13, .int .u8 0] 5)
           have HB3a := Lib.hid hb3a
           have hs7 := same_any _ _ _ _ hl (by simp) (HT.out.keep hb3a)
           have H5 := Lib.hid (show Calls Tryd.prog 8 #[.slice (some ⟨w3.heap.size, 0, none⟩) 5 5] (w3.alloc (.cells #[.int .u8 0, .int .u8 13, .int .u8 10, .int .u8 13, .int .u8 0] 5)) fun e w' => e = .returned (.bool true) ∧ Below (w3.alloc (.cells #[.int .u8 0, .int .u8 13, .int .u8 10, .int .u8 13, .int .u8 0] 5)).heap.size (w3.alloc (.cells #[.int .u8 0, .int .u8 13, .int .u8 10, .int .u8 13, .int .u8 0] 5)) w' from hs7)
           clear hs7
           clear hb3 hl hb3a H2)
        | (go_at_call 8
           with_reducible refine H5.out.mono ?_
           rintro e w4 ⟨rfl, hb4⟩
           have HB4 := Lib.hid (HB3a.out.trans (hb4.mono HB3a.out.size))
           have HK := Lib.hid (known_any w4 (HT.out.keep HB4.out))
           clear hb4 H5)
        | (go_at_call 9
           with_reducible refine HK.out.mono ?_
           rintro e w5 ⟨rfl, hb5⟩
           have HB5 := Lib.hid (HB4.out.trans (hb5.mono HB4.out.size))
           clear hb5))
      go_ret
      exact ⟨rfl, HB5.out⟩
end Go.Proofs.YtpdbbpmkdkjppaaDoor
