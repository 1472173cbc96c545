/- SerialDeep walked. -/
import Derived.Test.YtojpedgfllgbcaaDoorSerD
namespace Go.Proofs.YtojpedgfllgbcaaDoor
open Go.RowKit

theorem set6_same (w : World) (b : Nat) (u0 u1 u2 u3 u4 u5 : Value) : ∀ k, k < w.heap.size → k ≠ b → ((((((w.setCell ⟨b, 0, none⟩ u0).setCell ⟨b, 1, none⟩ u1).setCell ⟨b, 2, none⟩ u2).setCell ⟨b, 3, none⟩ u3).setCell ⟨b, 4, none⟩ u4).setCell ⟨b, 5, none⟩ u5).heap[k]? = w.heap[k]? :=
  but_other (set6_but w b u0 u1 u2 u3 u4 u5)

set_option maxHeartbeats 8000000 in
set_option maxRecDepth 100000 in
theorem walk_SerialDeep (n0 : Int) (s : ByteArray) (w : World) (hT : Tabs w) (hs : s.size ≤ 9223372036854775807) :
    Calls Tryd.prog 8 #[.int .i64 n0, .string s] w fun e w' => e = .returned (.bool true) ∧ Below w.heap.size w w' := by
  have hbd := withinI_bd n0 0 2000 (by omega)
  have HWI := Lib.hid (fun W => within_keep n0 0 2000 W (by omega) (by omega) (by omega))
  obtain ⟨n, hn⟩ := Int.eq_ofNat_of_zero_le hbd.1
  rw [hn] at HWI
  have hn2 : n ≤ 2000 := by omega
  have HHD := Lib.hid (fun W => head_short s 5 W (by omega) hs)
  have hh5 := headB_le s 5
  obtain ⟨h5, hh⟩ : ∃ h5, headB s 5 = h5 := ⟨_, rfl⟩
  have hh' : headB s (Int.toNat 5) = h5 := hh
  rw [hh'] at HHD
  rw [hh] at hh5
  obtain ⟨tx, htx⟩ : ∃ tx, (⟨#[119]⟩ : ByteArray) ++ h5 = tx := ⟨_, rfl⟩
  have hts : tx.size ≤ 6 := by rw [← htx, ByteArray.size_append]; show 1 + _ ≤ 6; omega
  have HT := Lib.hid hT
  have HTX := Lib.hid htx
  clear hbd hn hh hh' htx hT hs
  go_enter Tryd.func8, Tryd.ntmps8
  go_wp2_with (first
    | (go_at_call 27; with_reducible refine (HWI.out _).mono ?_; rintro e w1 ⟨rfl, rfl⟩)
    | (go_at_call 18; with_reducible refine (HHD.out _).mono ?_; rintro e w1 ⟨rfl, rfl⟩))
  rw [HTX.out]
  go_loopw [7] (fun iv wr => ∃ (j : Nat) (p : Parts), j ≤ n ∧ iv = .int .i64 j ∧ Blk wr w.heap.size 25 (cellsP (deepT tx j).1 (deepT tx j).2.len p).toArray (0, 0) ∧ PartsOk (wipe wr w.heap.size) (deepT tx j).1 (deepT tx j).2 p ∧ Below w.heap.size w wr) (fun iv _ => n - (intOf iv).toNat)
  case atStart => exact ⟨0, ⟨none, 0, none, 0⟩, Nat.zero_le _, rfl, Blk.new w _ _ _, ⟨RdA.nil' _, RdF.nil _ _ _ (Nat.zero_le _)⟩, (Below.refl _ _).alloc (Nat.le_refl _) _⟩
  case round =>
    obtain ⟨j, p, hj, rfl, hblk, hpo, hbe⟩ := hrel
    have HBL := Lib.hid hblk
    have HPO := Lib.hid hpo
    have HBE := Lib.hid hbe
    have hw := deep_w tx j
    obtain ⟨l, hl⟩ : ∃ l, (deepT tx j).1 = l := ⟨_, rfl⟩
    obtain ⟨k, hk⟩ : ∃ k, (deepT tx j).2 = k := ⟨_, rfl⟩
    have HDT : Hid (deepT tx j = (l, k)) := by show _ = _; rw [← hl, ← hk]
    rw [hl, hk] at HBL HPO
    have c0 : wr.cell? ⟨w.heap.size, 0, none⟩ = some (.int .i64 l.kind) := HBL.out.cell 0
    have c1 : wr.cell? ⟨w.heap.size, 1, none⟩ = some (.int .i64 l.ns) := HBL.out.cell 1
    have c2 : wr.cell? ⟨w.heap.size, 2, none⟩ = some (.string l.name) := HBL.out.cell 2
    have c3 : wr.cell? ⟨w.heap.size, 3, none⟩ = some (.slice p.A l.attrs.length p.c) := HBL.out.cell 3
    have c4 : wr.cell? ⟨w.heap.size, 4, none⟩ = some (.string l.text) := HBL.out.cell 4
    have c5 : wr.cell? ⟨w.heap.size, 5, none⟩ = some (.slice p.K k.len p.d) := HBL.out.cell 5
    have f0 := HBL.out.frozen 0 (.inr (Nat.zero_le _)); have f1 := HBL.out.frozen 1 (.inr (Nat.zero_le _)); have f2 := HBL.out.frozen 2 (.inr (Nat.zero_le _)); have f3 := HBL.out.frozen 3 (.inr (Nat.zero_le _)); have f4 := HBL.out.frozen 4 (.inr (Nat.zero_le _)); have f5 := HBL.out.frozen 5 (.inr (Nat.zero_le _))
    have hbl := HBL.out.lt
    clear hblk hpo hbe hl hk
    by_cases hlt : j < n
    · have d0 : decide ((j : Int) < (n : Int)) = true := decide_eq_true (by omega)
      have i1 : IntKind.i64.wrap ((j : Int) + 1) = (j : Int) + 1 := IntWalk.i64_in _ (by omega)
      have hd1 : deepT tx (j + 1) = (dL, .cons l k .nil) := by show (dL, Fo.cons (deepT tx j).1 (deepT tx j).2 .nil) = _; rw [HDT.out]
      have HD1 := Lib.hid hd1
      clear hd1 hw
      have hz6 : Blk ((((((wr.setCell ⟨w.heap.size, 0, none⟩ (.int .i64 3)).setCell ⟨w.heap.size, 1, none⟩ (.int .i64 1)).setCell ⟨w.heap.size, 2, none⟩ (.string ⟨#[98]⟩)).setCell ⟨w.heap.size, 3, none⟩ (.slice none 0 0)).setCell ⟨w.heap.size, 4, none⟩ (.string ⟨#[]⟩)).setCell ⟨w.heap.size, 5, none⟩ (.slice (some ⟨wr.heap.size, 0, none⟩) 1 1)) w.heap.size 25 #[.int .i64 3, .int .i64 1, .string ⟨#[98]⟩, .slice none 0 0, .string ⟨#[]⟩, .slice (some ⟨wr.heap.size, 0, none⟩) 1 1] (0, 0) := set6_blk HBL.out _ _ _ _ _ _
      have hsz : ((((((wr.setCell ⟨w.heap.size, 0, none⟩ (.int .i64 3)).setCell ⟨w.heap.size, 1, none⟩ (.int .i64 1)).setCell ⟨w.heap.size, 2, none⟩ (.string ⟨#[98]⟩)).setCell ⟨w.heap.size, 3, none⟩ (.slice none 0 0)).setCell ⟨w.heap.size, 4, none⟩ (.string ⟨#[]⟩)).setCell ⟨w.heap.size, 5, none⟩ (.slice (some ⟨wr.heap.size, 0, none⟩) 1 1)).heap.size = wr.heap.size := by simp [World.setCell]
      have hsame := set6_same wr w.heap.size (.int .i64 3) (.int .i64 1) (.string ⟨#[98]⟩) (.slice none 0 0) (.string ⟨#[]⟩) (.slice (some ⟨wr.heap.size, 0, none⟩) 1 1)
      have hbel := set6_below (b := w.heap.size) HBE.out (Nat.le_refl _) (.int .i64 3) (.int .i64 1) (.string ⟨#[98]⟩) (.slice none 0 0) (.string ⟨#[]⟩) (.slice (some ⟨wr.heap.size, 0, none⟩) 1 1)
      obtain ⟨X, hX⟩ : ∃ X, ((((((wr.setCell ⟨w.heap.size, 0, none⟩ (.int .i64 3)).setCell ⟨w.heap.size, 1, none⟩ (.int .i64 1)).setCell ⟨w.heap.size, 2, none⟩ (.string ⟨#[98]⟩)).setCell ⟨w.heap.size, 3, none⟩ (.slice none 0 0)).setCell ⟨w.heap.size, 4, none⟩ (.string ⟨#[]⟩)).setCell ⟨w.heap.size, 5, none⟩ (.slice (some ⟨wr.heap.size, 0, none⟩) 1 1)) = X := ⟨_, rfl⟩
      rw [hX] at hz6 hsz hsame hbel
      have hnew := Blk.new X 25 #[.int .i64 l.kind, .int .i64 l.ns, .string l.name, .slice p.A l.attrs.length p.c, .string l.text, .slice p.K k.len p.d] (0, 0)
      rw [hsz] at hnew
      have hsub : Sub (wipe wr w.heap.size) (wipe (X.alloc (.cells #[.int .i64 l.kind, .int .i64 l.ns, .string l.name, .slice p.A l.attrs.length p.c, .string l.text, .slice p.K k.len p.d] 25)) w.heap.size) := wipe_wipe HBL.out (fun k hk hn => (Below.heap_alloc X _ k (by omega)).trans (hsame k hk hn))
      have hwn : Blk (wipe (X.alloc (.cells #[.int .i64 l.kind, .int .i64 l.ns, .string l.name, .slice p.A l.attrs.length p.c, .string l.text, .slice p.K k.len p.d] 25)) w.heap.size) wr.heap.size 25 #[.int .i64 l.kind, .int .i64 l.ns, .string l.name, .slice p.A l.attrs.length p.c, .string l.text, .slice p.K k.len p.d] (0, 0) := (wipe_other _ (by omega)).trans hnew
      have hpn : PartsOk (wipe (X.alloc (.cells #[.int .i64 l.kind, .int .i64 l.ns, .string l.name, .slice p.A l.attrs.length p.c, .string l.text, .slice p.K k.len p.d] 25)) w.heap.size) dL (.cons l k .nil) ⟨none, 0, some ⟨wr.heap.size, 0, none⟩, 1⟩ :=
        ⟨RdA.nil' _, rdF_block (xs := cellsP l k.len p ++ []) hwn (Cells.cons_iff.2 ⟨p, [], rfl, HPO.out.sub hsub, rfl⟩) (Nat.le_refl 1) (show (1 : Nat) ≤ maxLen by decide)⟩
      have HZ := Lib.hid (hz6.alloc (.cells #[.int .i64 l.kind, .int .i64 l.ns, .string l.name, .slice p.A l.attrs.length p.c, .string l.text, .slice p.K k.len p.d] 25))
      have HPN := Lib.hid hpn
      have HBN := Lib.hid (hbel.alloc (by omega) (.cells #[.int .i64 l.kind, .int .i64 l.ns, .string l.name, .slice p.A l.attrs.length p.c, .string l.text, .slice p.K k.len p.d] 25))
      have HX := Lib.hid hX
      clear hz6 hsz hsame hbel hnew hsub hwn hpn hX
      go_wp2_with fail
      rw [HX.out]
      exact ⟨⟨j + 1, ⟨none, 0, some ⟨wr.heap.size, 0, none⟩, 1⟩, by omega, by go_num, by rw [HD1.out]; exact HZ.out, by rw [HD1.out]; exact HPN.out, HBN.out⟩, by simp [intOf]; omega⟩
    · have d0 : decide ((j : Int) < (n : Int)) = false := decide_eq_false (by omega)
      obtain rfl : j = n := by omega
      have hba : Below wr.heap.size wr (wr.alloc (.cells #[.int .i64 l.kind, .int .i64 l.ns, .string l.name, .slice p.A l.attrs.length p.c, .string l.text, .slice p.K k.len p.d] 25)) := (Below.refl _ _).alloc (Nat.le_refl _) _
      have hpp : PartsOk (wr.alloc (.cells #[.int .i64 l.kind, .int .i64 l.ns, .string l.name, .slice p.A l.attrs.length p.c, .string l.text, .slice p.K k.len p.d] 25)) rootL (.cons l k .nil) ⟨none, 0, some ⟨wr.heap.size, 0, none⟩, 1⟩ :=
        ⟨RdA.nil' _, rdF_block (xs := cellsP l k.len p ++ []) (Blk.new wr _ _ _) (Cells.cons_iff.2 ⟨p, [], rfl, (HPO.out.sub (wipe_self HBL.out)).keep hba, rfl⟩) (Nat.le_refl 1) (show (1 : Nat) ≤ maxLen by decide)⟩
      have hbw := HBE.out.trans (hba.mono HBE.out.size)
      have hTW := HT.out.keep hbw
      have hwt : wl rootL + wF (.cons l k .nil) ≤ 240000 := by
        have h1 : wl (deepT tx j).1 + wF (deepT tx j).2 = wl l + wF k := by rw [HDT.out]
        show 40 + (wl l + wF k + 0) ≤ _
        omega
      have hX := text_tree _ rootL (.cons l k .nil) ⟨none, 0, some ⟨wr.heap.size, 0, none⟩, 1⟩ hpp hwt hTW
      have hro : innerF false rootL (.cons l k .nil) = rep j [60, 98, 62] ++ escT false (B tx) ++ rep j [60, 47, 98, 62] := by
        rw [← deep_out tx j, HDT.out]
        exact root_inner (l, k)
      rw [hro] at hX
      have hes := escT_len false _ (B tx) (Nat.le_refl _)
      rw [← size_B] at hes
      have hE := fun W (hb : Below w.heap.size w W) => escape_any tx false W (by omega) (HT.out.keep hb)
      obtain ⟨E, hEE⟩ : ∃ E, escT false (B tx) = E := ⟨_, rfl⟩
      rw [hEE] at hX hE hes
      obtain ⟨O, hO⟩ : ∃ O, S (rep j [60, 98, 62] ++ E ++ rep j [60, 47, 98, 62]) = O := ⟨_, rfl⟩
      rw [hO] at hX
      obtain ⟨V, hV⟩ : ∃ V, S E = V := ⟨_, rfl⟩
      rw [hV] at hE
      have hVs : V.size = E.length := by rw [← hV, size_S]
      have hOs : O.size = 7 * j + V.size := by
        rw [← hO, size_S, List.length_append, List.length_append, rep_len, rep_len, hVs]
        show j * 3 + _ + j * 4 = _
        omega
      have HX : Hid (Calls Tryd.prog 23 #[.agg #[.int .i64 1, .int .i64 0, .string ⟨#[]⟩, .slice none 0 0, .string ⟨#[]⟩, .slice (some ⟨wr.heap.size, 0, none⟩) 1 1]] (wr.alloc (.cells #[.int .i64 l.kind, .int .i64 l.ns, .string l.name, .slice p.A l.attrs.length p.c, .string l.text, .slice p.K k.len p.d] 25)) fun e w' => e = .returned (.string O) ∧ Below (wr.alloc (.cells #[.int .i64 l.kind, .int .i64 l.ns, .string l.name, .slice p.A l.attrs.length p.c, .string l.text, .slice p.K k.len p.d] 25)).heap.size (wr.alloc (.cells #[.int .i64 l.kind, .int .i64 l.ns, .string l.name, .slice p.A l.attrs.length p.c, .string l.text, .slice p.K k.len p.d] 25)) w') := hX
      have HE := Lib.hid hE
      have HBW := Lib.hid hbw
      have HO := Lib.hid hO
      have HV := Lib.hid hV
      have hV1 : V.size ≤ 36 := by omega
      have HOS := Lib.hid hOs
      have HVS := Lib.hid hVs
      have hO1 : O.size ≤ 20000 := by omega
      have m9 : ((O.size : Int) != 7 * (j : Int) + (V.size : Int)) = false := by rw [bne_eq_false_iff_eq]; omega
      clear hba hpp hTW hwt hX hro hes hE hEE hO hV hbw hw hOs hVs
      go_wp2_with (first
        | (go_at_call 23; with_reducible refine HX.out.mono ?_; rintro e w2 ⟨rfl, hb2⟩; have HB2 := Lib.hid (HBW.out.trans (hb2.mono HBW.out.size)); clear hb2)
        | (go_at_call 22; with_reducible refine (HE.out _ HB2.out).mono ?_; rintro e w3 ⟨rfl, hb3⟩; have HB3 := Lib.hid (HB2.out.trans (hb3.mono HB2.out.size)); clear hb3))
      go_loop [10] (fun iv => ∃ i : Nat, i ≤ j ∧ iv = .int .i64 i) (fun iv => j - (intOf iv).toNat)
      case atStart => exact ⟨0, Nat.zero_le _, rfl⟩
      case round =>
        obtain ⟨i, hi, rfl⟩ := hrel
        by_cases hij : i < j
        · have d1 : decide ((i : Int) < (j : Int)) = true := decide_eq_true (by omega)
          have i1 : IntKind.i64.wrap ((i : Int) + 1) = (i : Int) + 1 := IntWalk.i64_in _ (by omega)
          have s1 : (3 * (i : Int)).toNat = 3 * i := by omega
          have s2 : (3 * (i : Int) + 3).toNat = 3 * i + 3 := by omega
          have s3 : ((O.size : Int) - 4 * (i : Int) - 4).toNat = O.size - 4 * i - 4 := by have := HOS.out; omega
          have s4 : ((O.size : Int) - 4 * (i : Int)).toNat = O.size - 4 * i := by have := HOS.out; omega
          have q1 : 3 * i + 3 ≤ O.size := by have := HOS.out; omega
          have q2 : 4 * i + 4 ≤ O.size := by have := HOS.out; omega
          have hO := HO.out
          have ht1 : B (O.extract (3 * i) (3 * i + 3)) = [60, 98, 62] := by
            rw [B_piece, ← hO, B_S, Nat.add_sub_cancel_left, List.append_assoc]
            exact rep_at [60, 98, 62] j i hij _
          have ht2 : B (O.extract (O.size - 4 * i - 4) (O.size - 4 * i)) = [60, 47, 98, 62] := by
            have e1 : O.size - 4 * i - 4 = (rep j [60, 98, 62] ++ E).length + 4 * (j - i - 1) := by
              rw [List.length_append, rep_len, HOS.out, HVS.out]
              show _ = j * 3 + E.length + _
              omega
            have e2 : O.size - 4 * i - (O.size - 4 * i - 4) = 4 := by omega
            rw [B_piece, e2, e1, ← hO, B_S, List.drop_append, List.drop_of_length_le (by omega), List.nil_append, Nat.add_sub_cancel_left]
            have h := rep_at [60, 47, 98, 62] j (j - i - 1) (by omega) []
            rw [List.append_nil] at h
            exact h
          have w1 : ((O.extract (3 * i) (3 * i + 3)).toList == [60, 98, 62]) = true := by rw [toList_B, ht1]; rfl
          have w2' : ((O.extract (O.size - 4 * i - 4) (O.size - 4 * i)).toList == [60, 47, 98, 62]) = true := by rw [toList_B, ht2]; rfl
          have w3' : ((O.extract (3 * i) (3 * i + 3)).toList != [60, 98, 62]) = false := by rw [bne, w1]; rfl
          have w4' : ((O.extract (O.size - 4 * i - 4) (O.size - 4 * i)).toList != [60, 47, 98, 62]) = false := by rw [bne, w2']; rfl
          clear hO ht1 ht2
          go_wp2_with fail
          exact ⟨⟨i + 1, by omega, by go_num⟩, by simp [intOf]; omega⟩
        · obtain rfl : i = j := by omega
          have d1 : decide ((i : Int) < (i : Int)) = false := decide_eq_false (by omega)
          have s1 : (3 * (i : Int)).toNat = 3 * i := by omega
          have s2 : (3 * (i : Int) + (V.size : Int)).toNat = 3 * i + V.size := by omega
          have q1 : 3 * i + V.size ≤ O.size := by have := HOS.out; omega
          have ht1 : B (O.extract (3 * i) (3 * i + V.size)) = B V := by
            have e1 : (rep i [60, 98, 62]).length = 3 * i := by rw [rep_len]; show i * 3 = _; omega
            rw [B_piece, ← HO.out, B_S, Nat.add_sub_cancel_left, List.append_assoc, List.drop_append, List.drop_of_length_le (by omega), e1, Nat.sub_self, List.drop_zero, List.nil_append, HVS.out, List.take_left', ← HV.out]
            · rfl
            · rfl
          have w1 : ((O.extract (3 * i) (3 * i + V.size)).toList == V.toList) = true := by rw [toList_B, toList_B, ht1]; exact beq_self_eq_true _
          have HK := Lib.hid (known23_any w3 (HT.out.keep HB3.out))
          clear ht1
          go_wp2_with (go_at_call 24; with_reducible refine HK.out.mono ?_; rintro e w4 ⟨rfl, hb4⟩)
          go_ret
          exact ⟨rfl, HB3.out.trans (hb4.mono HB3.out.size)⟩
end Go.Proofs.YtojpedgfllgbcaaDoor
