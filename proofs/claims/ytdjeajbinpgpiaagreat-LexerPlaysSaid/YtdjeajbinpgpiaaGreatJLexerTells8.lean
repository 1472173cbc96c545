/- Joined texts: NumP, TabR0. -/
import Derived.Test.YtdjeajbinpgpiaaGreatJLexerTells7
import Derived.Test.YtdjeajbinpgpiaaGreatJLexerTells2
import Derived.Test.YtdjeajbinpgpiaaGreatJLexerTells5
import Derived.Great.BuildSlice
namespace Go.Proofs.YtdjeajbinpgpiaaGreat
open Go.RowKit

theorem piece_snoc (s : ByteArray) (k j : Nat) (hk : k ≤ j) (hj : j < s.size) : pieceL (B s) k (j + 1) = pieceL (B s) k j ++ [s[j]] := by
  unfold pieceL
  rw [show j + 1 - k = (j - k) + 1 by omega, List.take_add_one, List.getElem?_drop, show k + (j - k) = j by omega, B_at s j hj]
  rfl
theorem digB_parts {base : Nat} {c : UInt8} : digB base c = (hexB c && decide (hexV c < base)) := rfl
theorem semi_at (l : List UInt8) (k : Nat) : startsL l [59] k = decide ((l.drop k).head? = some 59) := by
  unfold startsL Lib.occAt
  cases l.drop k with
  | nil => rfl
  | cons c r => 
    show (59 == c && List.isPrefixOf [] r) = _
    rw [show List.isPrefixOf [] r = true from rfl, Bool.and_true, Bool.eq_iff_iff]
    simp only [beq_iff_eq, decide_eq_true_eq, List.head?_cons, Option.some.injEq]
    exact eq_comm
/-- What 'number' answers. -/
def numP (l : List UInt8) (k base : Nat) : Value :=
  if stopL (digB base) l k = k then .tuple #[.string ⟨#[]⟩, .int .i64 0, .bool false]
  else .tuple #[.string (S (numberS (numL base (pieceL l k (stopL (digB base) l k))))), .int .i64 ((stopL (digB base) l k + (if (l.drop (stopL (digB base) l k)).head? = some 59 then 1 else 0) : Nat) : Int), .bool true]

theorem numP_at (l : List UInt8) (k base j n : Nat) (h : stopL (digB base) l k = j) (hn : n = capN (numL base (pieceL l k j))) :
    numP l k base = if j = k then .tuple #[.string ⟨#[]⟩, .int .i64 0, .bool false] else .tuple #[.string (S (numberS n)), .int .i64 ((j + (if startsL l [59] j = true then 1 else 0) : Nat) : Int), .bool true] := by
  unfold numP
  rw [h, hn, numberS_cap, semi_at]
  simp only [decide_eq_true_eq]
theorem startsK (s : ByteArray) (k : Nat) (sub : ByteArray) (w : World) (hs : s.size ≤ 65536) (hk : k ≤ s.size) :
    Calls Tryz.prog 68 #[.string s, .int .i64 (k : Int), .string sub] w fun e w' => e = .returned (.bool (startsL (B s) (B sub) k)) ∧ w = w' := by
  have := starts_any s sub (k : Int) w (by omega)
  rw [clampN_nat k s.size hk] at this
  exact this

set_option maxHeartbeats 4000000 in
set_option maxRecDepth 100000 in
theorem refnumber_any (s : ByteArray) (k base : Nat) (w : World) (hs : s.size ≤ 65536) (hk : k ≤ s.size) (hb1 : 1 ≤ base) (hb2 : base ≤ 16) :
    Calls Tryz.prog 90 #[.string s, .int .i64 (k : Int), .int .i64 (base : Int)] w fun e w' => e = .returned (numP (B s) k base) ∧ Below w.heap.size w w' := by
  have hL : (B s).length = s.size := (size_B s).symm
  have HLL := Lib.hid hL
  clear hL
  go_enter Tryz.func90, Tryz.ntmps90
  go_wp2_with fail
  go_loop [9, 1] (fun nv av => ∃ j n : Nat, k ≤ j ∧ j ≤ s.size ∧ n ≤ 1114112 ∧ Hid (stopL (digB base) (B s) j = stopL (digB base) (B s) k) ∧ Hid (n = capN (numL base (pieceL (B s) k j))) ∧ av = .int .i64 j ∧ nv = .int .i64 n) (fun _ av => s.size - (intOf av).toNat)
  case atStart => exact ⟨k, 0, Nat.le_refl _, hk, by omega, rfl, (by show 0 = _; unfold pieceL; rw [Nat.sub_self]; rfl), rfl, rfl⟩
  case round =>
    obtain ⟨j, n, hkj, hj, hn, H1, H2, rfl, rfl⟩ := hrel
    by_cases hlt : j < s.size
    · have hdec := digB_parts (base := base) (c := s[j])
      have hx := hexV_le s[j]
      cases hd : digB base s[j] with
      | true =>
        have hst := stopB_step (digB base) s j hlt hd
        have hcap := capN_step (numL base (pieceL (B s) k j)) (hexV s[j]) base hb1
        have HR : Hid (min (n * base + hexV s[j]) 1114112 = capN (numL base (pieceL (B s) k (j + 1)))) := by
          show _ = _
          rw [piece_snoc s k j hkj hlt, numL_snoc, ← hcap, ← H2.out]
        have HST := Lib.hid (hst.trans H1.out)
        rw [hd] at hdec
        have hh : hexB s[j] = true := by
          cases h : hexB s[j] with
          | true => rfl
          | false => rw [h] at hdec; cases hdec
        rw [hh] at hdec
        have hv : hexV s[j] < base := by simpa using hdec.symm
        have HX := hex_rune s[j]
        rw [hh] at HX
        have HXX := Lib.hid HX
        generalize hexV s[j] = x at *
        clear hst hcap hdec hh HX hd
        have hm : n * base ≤ 17825792 := by
          have := Nat.mul_le_mul hn hb2; omega
        have t1 : decide ((base : Int) ≤ (x : Int)) = false := by simp; omega
        have hp0 : (0 : Int) ≤ (n : Int) * (base : Int) := by rw [← Int.natCast_mul]; omega
        have hp1 : (n : Int) * (base : Int) ≤ 17825792 := by rw [← Int.natCast_mul]; omega
        go_wp2_with fail
        refine (HXX.out _).mono ?_
        rintro e w' ⟨rfl, rfl⟩
        go_wp2_with fail
        go_round
        case rel => exact ⟨j + 1, min (n * base + x) 1114112, by omega, by omega, by omega, HST, HR, by go_num, by congr 1; rw [← Int.natCast_mul]; omega⟩
        case measure => simp [intOf]; omega
      | false =>
        have HST := Lib.hid (H1.out.symm.trans (stopB_stop (digB base) s j hlt hd))
        rw [hd] at hdec
        have HX := hex_rune s[j]
        have hor : hexB s[j] = false ∨ (hexB s[j] = true ∧ decide (base ≤ hexV s[j]) = true) := by
          cases h : hexB s[j] with
          | false => exact .inl rfl
          | true =>
            rw [h] at hdec
            refine .inr ⟨rfl, ?_⟩
            simp only [Bool.true_and] at hdec
            have := of_decide_eq_false hdec.symm
            simp; omega
        clear hdec hd
        rcases hor with hor | ⟨hor, t1⟩
        · rw [hor] at HX
          have HXX := Lib.hid HX
          clear HX hor
          generalize hexV s[j] = x at *
          have HF := Lib.hid (numP_at (B s) k base j n HST.out H2.out)
          have hn2 := number_any n hn
          have HN := Lib.hid hn2
          clear hn2
          by_cases hjk : j = k
          · have d0 : ((j : Int) == (k : Int)) = true := by rw [hjk]; exact beq_self_eq_true _
            rw [if_pos hjk] at HF
            clear hjk
            go_wp2_with fail
            refine (HXX.out _).mono ?_
            rintro e w' ⟨rfl, rfl⟩
            go_wp2_with fail
            go_ret3
            exact ⟨HF.out.symm ▸ rfl, Below.refl _ _⟩
          · have d0 : ((j : Int) == (k : Int)) = false := by rw [beq_eq_false_iff_ne]; omega
            rw [if_neg hjk] at HF
            clear hjk
            have HS := Lib.hid (fun w => startsK s j ⟨#[59]⟩ w hs hj)
            rw [show B ⟨#[59]⟩ = [59] from rfl] at HS
            cases hsm : startsL (B s) [59] j with
            | true =>
              rw [hsm] at HS HF
              clear hsm
              go_wp2_with fail
              refine (HXX.out _).mono ?_
              rintro e w' ⟨rfl, rfl⟩
              go_wp2_with fail
              refine (HS.out _).mono ?_
              rintro e w' ⟨rfl, rfl⟩
              go_wp2_with fail
              refine (HN.out _).mono ?_
              rintro e w2 ⟨rfl, b2⟩
              go_wp2_with fail
              go_ret3
              exact ⟨HF.out.symm ▸ rfl, b2⟩
            | false =>
              rw [hsm] at HS HF
              clear hsm
              go_wp2_with fail
              refine (HXX.out _).mono ?_
              rintro e w' ⟨rfl, rfl⟩
              go_wp2_with fail
              refine (HS.out _).mono ?_
              rintro e w' ⟨rfl, rfl⟩
              go_wp2_with fail
              refine (HN.out _).mono ?_
              rintro e w2 ⟨rfl, b2⟩
              go_wp2_with fail
              go_ret3
              exact ⟨HF.out.symm ▸ rfl, b2⟩
        · rw [hor] at HX
          have HXX := Lib.hid HX
          clear HX hor
          generalize hexV s[j] = x at *
          have HF := Lib.hid (numP_at (B s) k base j n HST.out H2.out)
          have hn2 := number_any n hn
          have HN := Lib.hid hn2
          clear hn2
          by_cases hjk : j = k
          · have d0 : ((j : Int) == (k : Int)) = true := by rw [hjk]; exact beq_self_eq_true _
            rw [if_pos hjk] at HF
            clear hjk
            go_wp2_with fail
            refine (HXX.out _).mono ?_
            rintro e w' ⟨rfl, rfl⟩
            go_wp2_with fail
            go_ret3
            exact ⟨HF.out.symm ▸ rfl, Below.refl _ _⟩
          · have d0 : ((j : Int) == (k : Int)) = false := by rw [beq_eq_false_iff_ne]; omega
            rw [if_neg hjk] at HF
            clear hjk
            have HS := Lib.hid (fun w => startsK s j ⟨#[59]⟩ w hs hj)
            rw [show B ⟨#[59]⟩ = [59] from rfl] at HS
            cases hsm : startsL (B s) [59] j with
            | true =>
              rw [hsm] at HS HF
              clear hsm
              go_wp2_with fail
              refine (HXX.out _).mono ?_
              rintro e w' ⟨rfl, rfl⟩
              go_wp2_with fail
              refine (HS.out _).mono ?_
              rintro e w' ⟨rfl, rfl⟩
              go_wp2_with fail
              refine (HN.out _).mono ?_
              rintro e w2 ⟨rfl, b2⟩
              go_wp2_with fail
              go_ret3
              exact ⟨HF.out.symm ▸ rfl, b2⟩
            | false =>
              rw [hsm] at HS HF
              clear hsm
              go_wp2_with fail
              refine (HXX.out _).mono ?_
              rintro e w' ⟨rfl, rfl⟩
              go_wp2_with fail
              refine (HS.out _).mono ?_
              rintro e w' ⟨rfl, rfl⟩
              go_wp2_with fail
              refine (HN.out _).mono ?_
              rintro e w2 ⟨rfl, b2⟩
              go_wp2_with fail
              go_ret3
              exact ⟨HF.out.symm ▸ rfl, b2⟩
    · have HST := Lib.hid (H1.out.symm.trans (stopB_end (digB base) s j hlt))
      have HF := Lib.hid (numP_at (B s) k base j n HST.out H2.out)
      have hn2 := number_any n hn
      have HN := Lib.hid hn2
      clear hn2
      by_cases hjk : j = k
      · have d0 : ((j : Int) == (k : Int)) = true := by rw [hjk]; exact beq_self_eq_true _
        rw [if_pos hjk] at HF
        clear hjk
        go_wp2_with fail
        go_ret3
        exact ⟨HF.out.symm ▸ rfl, Below.refl _ _⟩
      · have d0 : ((j : Int) == (k : Int)) = false := by rw [beq_eq_false_iff_ne]; omega
        rw [if_neg hjk] at HF
        clear hjk
        have HS := Lib.hid (fun w => startsK s j ⟨#[59]⟩ w hs hj)
        rw [show B ⟨#[59]⟩ = [59] from rfl] at HS
        cases hsm : startsL (B s) [59] j with
        | true =>
          rw [hsm] at HS HF
          clear hsm
          go_wp2_with fail
          refine (HS.out _).mono ?_
          rintro e w' ⟨rfl, rfl⟩
          go_wp2_with fail
          refine (HN.out _).mono ?_
          rintro e w2 ⟨rfl, b2⟩
          go_wp2_with fail
          go_ret3
          exact ⟨HF.out.symm ▸ rfl, b2⟩
        | false =>
          rw [hsm] at HS HF
          clear hsm
          go_wp2_with fail
          refine (HS.out _).mono ?_
          rintro e w' ⟨rfl, rfl⟩
          go_wp2_with fail
          refine (HN.out _).mono ?_
          rintro e w2 ⟨rfl, b2⟩
          go_wp2_with fail
          go_ret3
          exact ⟨HF.out.symm ▸ rfl, b2⟩
end Go.Proofs.YtdjeajbinpgpiaaGreat

namespace Go.Proofs.YtdjeajbinpgpiaaGreat
open Go.RowKit
def encR : ByteArray × ByteArray → List Value := fun p => [.string p.1, .string p.2]
def tabCells : Array Value := (tabT.flatMap encR).toArray
/-- A slice literal, its cells reckoned at once. -/
theorem wpList_buildAt {P : Program} {ops : Array Oper} {rest : List Oper} {o : Oper} {a : Act} {w : World} {Q : Exit → Act → World → Prop} (hg : o.guard = none) (t e : TypeId) (len : Nat) (parts : Array (Nat × Operand)) (ho : o.op = .buildSlice t len parts)
    (cells : Array Value) (k : Nat) (z : Value)
    (hu : P.underlying t = some (.slice e)) (hi : (P.info? e).map (fun i => (i.zero, i.size)) = some (some z, k)) (hsmall : ¬ len * k > 2 ^ 24) (hpos : ¬ len * k = 0)
    (hf : Instr.fill (fun i => some (i * k, k)) ((Array.range (len * k)).map (z.cells[· % z.cells.size]!)) (parts.map fun (i, x) => (i, a.eval x)).toList = some cells)
    (h : wpList P ops Q rest (a.put o.dst (.slice (some ⟨w.heap.size, 0, none⟩) len len)) (w.alloc (.cells cells e))) : wpList P ops Q (o :: rest) a w := by
  cases hie : P.info? e with
  | none => simp [hie] at hi
  | some ie =>
    simp only [hie, Option.map_some, Option.some.injEq, Prod.mk.injEq] at hi
    obtain ⟨hz, rfl⟩ := hi
    exact wpList_buildSlice hg t e len parts ho cells ie z hu hie hz hsmall hpos hf h
end Go.Proofs.YtdjeajbinpgpiaaGreat
