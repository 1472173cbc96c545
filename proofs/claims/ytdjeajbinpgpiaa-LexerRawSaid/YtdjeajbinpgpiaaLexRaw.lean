/- LexerRaw, walked. -/
import Derived.Test.YtdjeajbinpgpiaaLexRw
import Derived.Test.YtdjeajbinpgpiaaLexA0
import Derived.Test.YtdjeajbinpgpiaaKeepH
import Derived.Great.BuildSlice
import Derived.Laws.Cover4
import Derived.Laws.RangeAny
import Derived.Laws.Runes
import Derived.LoopN
import Derived.Deep.CutBlock
import Derived.Deep.DeepCutAuto
namespace Go.Proofs.Ytdjeajbinpgpiaa
open Go.RowKit

theorem B_and (a b : ByteArray) : B (a ++ b) = B a ++ B b := by
  unfold B
  simp only [ByteArray.data_append, Array.toList_append]
/-- No solidus. -/
def noSl (l : List UInt8) : Prop := ∀ c ∈ l, c ≠ 47
theorem noSl_app {a b : List UInt8} (h1 : noSl a) (h2 : noSl b) : noSl (a ++ b) := fun c hc => by
  rcases List.mem_append.1 hc with h | h
  · exact h1 c h
  · exact h2 c h
theorem ofNat_noSl {n : Nat} (h : n < 256) (h1 : n ≠ 47) : UInt8.ofNat n ≠ 47 := fun e => by
  have := congrArg UInt8.toNat e
  simp only [UInt8.toNat_ofNat'] at this
  simp at this
  omega
theorem noSl_enc (r : Nat) (h1 : r ≠ 47) : noSl (B (Utf8.encode (r : Int))) := by
  have key : ∀ c : Nat, c ≤ 0x10FFFF → c ≠ 47 → noSl (B (if c < 0x80 then ⟨#[UInt8.ofNat c]⟩
      else if c < 0x800 then ⟨#[UInt8.ofNat (0xC0 + c / 64), UInt8.ofNat (0x80 + c % 64)]⟩
      else if c < 0x10000 then ⟨#[UInt8.ofNat (0xE0 + c / 4096), UInt8.ofNat (0x80 + c / 64 % 64), UInt8.ofNat (0x80 + c % 64)]⟩
      else ⟨#[UInt8.ofNat (0xF0 + c / 262144), UInt8.ofNat (0x80 + c / 4096 % 64), UInt8.ofNat (0x80 + c / 64 % 64), UInt8.ofNat (0x80 + c % 64)]⟩)) := by
    intro c hc n1
    have one : ∀ n, n < 256 → n ≠ 47 → ∀ l, noSl l → noSl (UInt8.ofNat n :: l) := fun n a b l hl z hz => by
      rcases List.mem_cons.1 hz with rfl | hz
      · exact ofNat_noSl a b
      · exact hl z hz
    have none' : noSl [] := fun z hz => absurd hz (by simp)
    split
    · exact one _ (by omega) n1 _ none'
    · split
      · exact one _ (by omega) (by omega) _ (one _ (by omega) (by omega) _ none')
      · split
        · exact one _ (by omega) (by omega) _ (one _ (by omega) (by omega) _ (one _ (by omega) (by omega) _ none'))
        · exact one _ (by omega) (by omega) _ (one _ (by omega) (by omega) _ (one _ (by omega) (by omega) _ (one _ (by omega) (by omega) _ none')))
  unfold Utf8.encode
  by_cases hv : Utf8.valid (r : Int) = true
  · rw [if_pos hv, Int.toNat_natCast]
    refine key r ?_ h1
    unfold Utf8.valid at hv
    simp at hv
    omega
  · rw [if_neg hv]
    exact key Utf8.runeError (by decide) (by decide)
theorem width_oneR (s : ByteArray) (pos : Nat) (h : pos < s.size) : 1 ≤ (Utf8.decode s pos).2 := by
  by_cases ha : (s[pos]'h).toNat < 128
  · rw [decode_ascii s pos h ha]
    exact Nat.le_refl _
  · exact (decode_high s pos h (by omega)).2
theorem iter_belowR (w : World) (s : ByteArray) (pos : Nat) : Below w.heap.size w (w.iter s pos) := (Below.refl _ _).alloc (Nat.le_refl _) _
theorem wpList_buildAtR {P : Program} {ops : Array Oper} {rest : List Oper} {o : Oper} {a : Act} {w : World} {Q : Exit → Act → World → Prop} (hg : o.guard = none) (t e : TypeId) (len : Nat) (parts : Array (Nat × Operand)) (ho : o.op = .buildSlice t len parts)
    (cells : Array Value) (k : Nat) (z : Value)
    (hu : P.underlying t = some (.slice e)) (hi : (P.info? e).map (fun i => (i.zero, i.size)) = some (some z, k)) (hsmall : ¬ len * k > 2 ^ 24) (hpos : ¬ len * k = 0)
    (hf : Instr.fill (fun i => some (i * k, k)) ((Array.range (len * k)).map (z.cells[· % z.cells.size]!)) (parts.map fun (i, x) => (i, a.eval x)).toList = some cells)
    (h : wpList P ops Q rest (a.put o.dst (.slice (some ⟨w.heap.size, 0, none⟩) len len)) (w.alloc (.cells cells e))) : wpList P ops Q (o :: rest) a w := by
  cases hie : P.info? e with
  | none => simp [hie] at hi
  | some ie =>
    simp only [hie, Option.map_some, Option.some.injEq, Prod.mk.injEq] at hi
    obtain ⟨hz, rfl⟩ := hi
    exact wpList_buildSlice hg t e len parts ho cells ie z hu hie hz hsmall hpos hf h
def nb3 : List ByteArray := [⟨#[115, 99, 114, 105, 112, 116]⟩, ⟨#[115, 116, 121, 108, 101]⟩, ⟨#[120, 109, 112]⟩]
def arr3 : Array Value := (nb3.map Value.string).toArray
theorem nb3_at {k : Nat} (h : k < 3) : ∃ x, nb3[k]? = some x ∧ x.size ≤ 6 ∧ isRw (B x) := by
  match k, h with
  | 0, _ => exact ⟨_, rfl, by decide, .inl rfl⟩
  | 1, _ => exact ⟨_, rfl, by decide, .inr (.inl rfl)⟩
  | 2, _ => exact ⟨_, rfl, by decide, .inr (.inr rfl)⟩
theorem nb3_cell (w : World) (e : TypeId) {k : Nat} {x : ByteArray} (h : nb3[k]? = some x) : (w.alloc (.cells arr3 e)).cell? ⟨w.heap.size, k, none⟩ = some (.string x) := by
  rw [(Blk.new w e arr3 (0, 0)).cell k]
  unfold arr3
  rw [List.getElem?_toArray, List.getElem?_map, h]
  rfl
theorem five_of {out : List Tq} {a b c d e : Tk} (h : out.map Tq.t = [a, b, c, d, e]) : ∃ m0 m1 m2 m3 m4, out = [m0, m1, m2, m3, m4] ∧ m0.t = a ∧ m1.t = b ∧ m2.t = c ∧ m3.t = d ∧ m4.t = e := by
  match out, h with
  | [m0, m1, m2, m3, m4], h =>
    simp only [List.map_cons, List.map_nil, List.cons.injEq, and_true] at h
    exact ⟨m0, m1, m2, m3, m4, rfl, h.1, h.2.1, h.2.2.1, h.2.2.2.1, h.2.2.2.2⟩
/-- The second text's tokens. -/
theorem esc_any (w : World) (hL : Lax w) :
    Calls Try.prog 8 #[.string ⟨#[60, 116, 105, 116, 108, 101, 62, 38, 108, 116, 59, 98, 62, 60, 47, 116, 105, 116, 108, 101, 62]⟩] w fun e w' => ∃ g c s, e = .returned (.slice (some ⟨g, 0, none⟩) 4 c) ∧ w'.cell? ⟨g, 9, none⟩ = some (.string s) ∧ s.toList = [60, 98, 62] ∧ Below w.heap.size w w' := by
  have HA := Lib.hid (lall_any escTx w (by decide) hL)
  obtain ⟨t0, t1, t2, t3, hl, s0, s1, s2, s3⟩ := see_four escT_toks
  rw [hl] at HA
  obtain ⟨_, _, x1⟩ := seen s1
  refine HA.out.mono ?_
  rintro e w1 ⟨v, out, rfl, hr, hm, b1⟩
  obtain ⟨m0, m1, m2, m3, rfl, rfl, rfl, rfl, rfl⟩ := four_of hm
  obtain ⟨g, c, rfl, hc⟩ := hr.at (by simp)
  exact ⟨g, c, _, rfl, (hc 1 m1 rfl).2.2, x1, b1⟩

set_option maxHeartbeats 4000000 in
set_option maxRecDepth 100000 in
theorem walk_LexerRaw (a0 : ByteArray) (a1 : Int) (w0 : a0.size ≤ maxLen) (w : World) (hL : Lax w) :
    Calls Try.prog 4 #[.string a0, .int .i64 a1] w fun e w' => e = .returned (.bool true) ∧ Below w.heap.size w w' := by
  unfold maxLen at w0
  have hh := headB_le a0 40
  have HH := Lib.hid (fun w => head_any a0 40 w (by decide) (by omega))
  rw [show (40 : Int).toNat = 40 from rfl] at HH
  generalize headB a0 40 = s at *
  have HL := Lib.hid hL
  have HKN := Lib.hid (fun W (hW : Below w.heap.size w W) => lex_known W (hL.below hW))
  have HES := Lib.hid (fun W (hW : Below w.heap.size w W) => esc_any W (hL.below hW))
  have HWI := Lib.hid (fun W => bwithin_any a1 0 2 W (by decide) (by decide) (by decide))
  have hwb := withinI_bd a1 0 2 (by decide)
  obtain ⟨k, hk⟩ := Int.eq_ofNat_of_zero_le hwb.1
  rw [hk] at HWI
  have hk3 : k < 3 := by omega
  clear hL w0 hwb hk
  go_enter Try.func4, Try.ntmps4
  go_wp2_with fail
  refine (HH.out _).mono ?_
  rintro e w1 ⟨rfl, rfl⟩
  go_wp2_with fail
  go_loopw [5] (fun xv wr => ∃ (pos n : Nat) (x : ByteArray), wr = w.iter s pos ∧ n ≤ pos ∧ n ≤ 40 ∧ x.size ≤ 4 * n ∧ noSl (B x) ∧ xv = .string x) (fun _ wr => s.size - wr.iterPos w.heap.size)
  case atStart => exact ⟨0, 0, ⟨#[]⟩, rfl, Nat.le_refl _, by omega, Nat.le_refl 0, fun c hc => absurd hc (by simp [B]), rfl⟩
  case round =>
    obtain ⟨pos, n, x, rfl, hn, hn60, hx, hcl, rfl⟩ := hrel
    by_cases hp : pos < s.size
    · have hnx : ∀ ty, (Instr.next (.pointer (some ⟨w.heap.size, 0, none⟩)) true ty).run Try.prog (w.iter s pos) = _ := fun ty => run_next_any w s pos ty hp
      have hwd := width_oneR s pos hp
      generalize hr : (Utf8.decode s pos).1 = r at *
      generalize (Utf8.decode s pos).2 = wd at *
      have hes := encode_size_le (r : Int)
      have hsum : x.size + (Utf8.encode (r : Int)).size ≤ 9223372036854775807 := by omega
      have HCL := Lib.hid hcl
      clear hcl hk3
      by_cases hbad : r = 47
      · have e1 : ((r : Int) != 47) = false := by rw [hbad]; decide
        clear hbad
        go_wp2_with fail
        exact ⟨⟨pos + wd, n, x, rfl, by omega, hn60, hx, HCL.out, rfl⟩, by simp; omega⟩
      · have e1 : ((r : Int) != 47) = true := by rw [bne_iff_ne]; omega
        have HCE := Lib.hid (noSl_enc r hbad)
        have HZ2 := Lib.hid (show (x ++ Utf8.encode (r : Int)).size ≤ 4 * (n + 1) by rw [ByteArray.size_append]; omega)
        have HC2 := Lib.hid (show noSl (B (x ++ Utf8.encode (r : Int))) by rw [B_and]; exact noSl_app HCL.out HCE.out)
        clear hbad
        go_wp2_with fail
        exact ⟨⟨pos + wd, n + 1, _, rfl, by omega, by omega, HZ2.out, HC2.out, rfl⟩, by simp; omega⟩
    · have hnx : ∀ ty, (Instr.next (.pointer (some ⟨w.heap.size, 0, none⟩)) true ty).run Try.prog (w.iter s pos) = _ := fun ty => run_next_end w s pos ty hp
      obtain ⟨nb, hnb, hnz, hrw⟩ := nb3_at hk3
      have hxz : x.size ≤ 160 := by omega
      have ha1 : (⟨#[60]⟩ ++ nb : ByteArray).size ≤ 7 := by rw [ByteArray.size_append]; show 1 + _ ≤ _; omega
      have ha2 : ((⟨#[60]⟩ ++ nb) ++ ⟨#[62]⟩ : ByteArray).size ≤ 8 := by rw [ByteArray.size_append]; show _ + 1 ≤ _; omega
      have ha3 : (((⟨#[60]⟩ ++ nb) ++ ⟨#[62]⟩) ++ x : ByteArray).size ≤ 168 := by rw [ByteArray.size_append]; omega
      have ha4 : ((((⟨#[60]⟩ ++ nb) ++ ⟨#[62]⟩) ++ x) ++ ⟨#[60, 98, 62, 38, 108, 116, 59, 60, 47]⟩ : ByteArray).size ≤ 177 := by rw [ByteArray.size_append]; show _ + 9 ≤ _; omega
      have ha5 : (((((⟨#[60]⟩ ++ nb) ++ ⟨#[62]⟩) ++ x) ++ ⟨#[60, 98, 62, 38, 108, 116, 59, 60, 47]⟩) ++ nb : ByteArray).size ≤ 183 := by rw [ByteArray.size_append]; omega
      have ha6 : ((((((⟨#[60]⟩ ++ nb) ++ ⟨#[62]⟩) ++ x) ++ ⟨#[60, 98, 62, 38, 108, 116, 59, 60, 47]⟩) ++ nb) ++ ⟨#[32, 62, 121]⟩ : ByteArray).size ≤ 186 := by rw [ByteArray.size_append]; show _ + 3 ≤ _; omega
      have q1 : (⟨#[60]⟩ : ByteArray).size + nb.size ≤ 9223372036854775807 := by show 1 + _ ≤ _; omega
      have q2 : (⟨#[60]⟩ ++ nb : ByteArray).size + (⟨#[62]⟩ : ByteArray).size ≤ 9223372036854775807 := by show _ + 1 ≤ _; omega
      have q3 : ((⟨#[60]⟩ ++ nb) ++ ⟨#[62]⟩ : ByteArray).size + x.size ≤ 9223372036854775807 := by omega
      have q4 : (((⟨#[60]⟩ ++ nb) ++ ⟨#[62]⟩) ++ x : ByteArray).size + (⟨#[60, 98, 62, 38, 108, 116, 59, 60, 47]⟩ : ByteArray).size ≤ 9223372036854775807 := by show _ + 9 ≤ _; omega
      have q5 : ((((⟨#[60]⟩ ++ nb) ++ ⟨#[62]⟩) ++ x) ++ ⟨#[60, 98, 62, 38, 108, 116, 59, 60, 47]⟩ : ByteArray).size + nb.size ≤ 9223372036854775807 := by omega
      have q6 : (((((⟨#[60]⟩ ++ nb) ++ ⟨#[62]⟩) ++ x) ++ ⟨#[60, 98, 62, 38, 108, 116, 59, 60, 47]⟩) ++ nb : ByteArray).size + (⟨#[32, 62, 121]⟩ : ByteArray).size ≤ 9223372036854775807 := by show _ + 3 ≤ _; omega
      have q7 : x.size + (⟨#[60, 98, 62, 38, 108, 116, 59]⟩ : ByteArray).size ≤ 9223372036854775807 := by show _ + 7 ≤ _; omega
      have hB : B ((((((⟨#[60]⟩ ++ nb) ++ ⟨#[62]⟩) ++ x) ++ ⟨#[60, 98, 62, 38, 108, 116, 59, 60, 47]⟩) ++ nb) ++ ⟨#[32, 62, 121]⟩) = preR (B nb) ++ ((B (x ++ ⟨#[60, 98, 62, 38, 108, 116, 59]⟩)) ++ tlR (B nb)) := by
        simp only [B_and]
        unfold preR tlR B
        simp
      have hz1 : noSl (B (x ++ ⟨#[60, 98, 62, 38, 108, 116, 59]⟩)) := by
        rw [B_and]
        exact noSl_app hcl (show ∀ c ∈ ([60, 98, 62, 38, 108, 116, 59] : List UInt8), c ≠ 47 by decide)
      have hz0 : B (x ++ ⟨#[60, 98, 62, 38, 108, 116, 59]⟩) ≠ [] := fun e => by
        have := congrArg List.length e
        rw [← size_B, ByteArray.size_append] at this
        have h7 : (⟨#[60, 98, 62, 38, 108, 116, 59]⟩ : ByteArray).size = 7 := rfl
        rw [h7] at this
        simp at this
      have htoks := toks_raw (B nb) (B (x ++ (⟨#[60, 98, 62, 38, 108, 116, 59]⟩ : ByteArray))) hrw hz0 hz1
      rw [← hB] at htoks
      unfold txtT at htoks
      simp only [S_B] at htoks
      have HB0 := Lib.hid (iter_belowR w s pos)
      have c0 := nb3_cell (w.iter s pos) 9 hnb
      have hba : Below (w.iter s pos).heap.size (w.iter s pos) ((w.iter s pos).alloc (.cells arr3 9)) := (Below.refl _ _).alloc (Nat.le_refl _) _
      have HB1 := Lib.hid (below_then HB0.out HB0.out.size hba)
      have HA := Lib.hid (lall_any _ ((w.iter s pos).alloc (.cells arr3 9)) (Nat.le_trans ha6 (by decide)) (HL.out.below HB1.out))
      rw [htoks] at HA
      have t1 : ((x ++ ⟨#[60, 98, 62, 38, 108, 116, 59]⟩).toList != (x ++ ⟨#[60, 98, 62, 38, 108, 116, 59]⟩).toList) = false := by simp
      have t2 : (nb.toList != nb.toList) = false := by simp
      have t3 : ((⟨#[121]⟩ : ByteArray).toList != [121]) = false := by decide +kernel
      clear hcl hnb hrw hB hz1 hz0 htoks hba ha1 ha2 ha3 ha4 ha5 ha6
      go_wp2_with (first
        | (refine wpList_buildAtR (o := ⟨_, .buildSlice _ _ _, _, _, _, _⟩) rfl _ 9 _ _ rfl arr3 1 (.string ⟨#[]⟩) Try.underlying30 (by kernel_rfl) (by decide) (by decide) (by kernel_rfl) ?_)
        | (go_at_call 10; refine (HWI.out _).mono ?_; rintro e w1 ⟨rfl, rfl⟩))
      refine HA.out.mono ?_
      rintro e w1 ⟨v, out, rfl, hr, hm, b1⟩
      obtain ⟨m0, m1, m2, m3, m4, rfl, h0, h1, h2, h3, h4⟩ := five_of hm
      obtain ⟨g, c, rfl, hc⟩ := hr.at (by simp)
      have c1 : w1.cell? ⟨g, 5, none⟩ = some (.int .i64 4) := by have := (hc 1 m1 rfl).1; rw [h1] at this; exact this
      have c2 : w1.cell? ⟨g, 9, none⟩ = some (.string (x ++ ⟨#[60, 98, 62, 38, 108, 116, 59]⟩)) := by have := (hc 1 m1 rfl).2.2; rw [h1] at this; exact this
      have c3 : w1.cell? ⟨g, 10, none⟩ = some (.int .i64 3) := by have := (hc 2 m2 rfl).1; rw [h2] at this; exact this
      have c4 : w1.cell? ⟨g, 11, none⟩ = some (.string nb) := by have := (hc 2 m2 rfl).2.1; rw [h2] at this; exact (by simpa [S_B] using this)
      have c5 : w1.cell? ⟨g, 19, none⟩ = some (.string ⟨#[121]⟩) := by have := (hc 3 m3 rfl).2.2; rw [h3] at this; exact this
      have HB2 := Lib.hid (below_then HB1.out HB1.out.size b1)
      clear hr hm hc b1 h0 h1 h2 h3 h4 c0
      go_wp2_with fail
      refine (HES.out _ HB2.out).mono ?_
      rintro e w2 ⟨g2, cc, s2, rfl, k2, hs2, b2⟩
      have c1 := cell_keep b2 c1
      have c2 := cell_keep b2 c2
      have c3 := cell_keep b2 c3
      have c4 := cell_keep b2 c4
      have c5 := cell_keep b2 c5
      have HB3 := Lib.hid (below_then HB2.out HB2.out.size b2)
      have t4 : (s2.toList == [60, 98, 62]) = true := by rw [hs2]; decide
      clear b2 hs2
      go_wp2_with fail
      refine (HKN.out _ HB3.out).mono ?_
      rintro e w3 ⟨rfl, b3⟩
      have HB4 := Lib.hid (below_then HB3.out HB3.out.size b3)
      clear b3
      go_wp2_with fail
      go_ret
      exact ⟨rfl, HB4.out⟩
end Go.Proofs.Ytdjeajbinpgpiaa
