/- arbourkeep.Markup: its bytes (XLexEnds's own lines, for the twin seat; never beside XLexEnds). -/
import Derived.Test.YtdjeajbinpgpiaaGreatJLexerTellsEndsM
import Derived.Test.YtdjeajbinpgpiaaGreatJLexerTells6
import Derived.Test.YtdjeajbinpgpiaaGreatJLexerTellsArgInts
import Derived.LoopN
namespace Go.Proofs.YtdjeajbinpgpiaaGreat
open Go.RowKit

/-- Bytes in memory. -/
def BytesAt (w : World) (g : Nat) (x : ByteArray) : Prop := ∀ j (hj : j < (B x).length), w.cell? ((⟨g, 0, none⟩ : Addr).add j) = some (.int .u8 ((B x)[j].toNat : Int))
set_option maxHeartbeats 4000000 in
theorem markup_any (mo : Nat) (hmo : mo ≤ 20) (A : Option Addr) (c : Nat) (l : List Int) (w : World) (hr : Rd w A l.length 1 (l.flatMap enc_int)) :
    Calls Tryz.prog 9 #[.slice A l.length c, .int .i64 (mo : Int)] w fun e w' => ∃ (x : ByteArray) (g cap : Nat), e = .returned (.slice (some ⟨g, 0, none⟩) x.size cap) ∧ x.size ≤ 1200 ∧ BytesAt w' g x ∧ Below w.heap.size w w' := by
  have HR := Lib.hid hr
  clear hr
  go_enter Tryz.func9, Tryz.ntmps9
  go_wp2_with fail
  go_loopw [5, 6] (fun xv iv wr => ∃ (j : Nat) (x : ByteArray), j ≤ l.length ∧ j ≤ mo ∧ x.size ≤ 60 * j ∧ xv = .string x ∧ iv = .int .i64 j ∧ Below w.heap.size w wr) (fun _ iv _ => l.length - (intOf iv).toNat)
  case atStart => exact ⟨0, ⟨#[]⟩, Nat.zero_le _, Nat.zero_le _, Nat.le_refl 0, rfl, rfl, Below.refl _ _⟩
  case round =>
    obtain ⟨j, x, hj, hj20, hx, rfl, rfl, hb⟩ := hrel
    have HB := Lib.hid hb
    clear hb
    by_cases hlt : j < l.length ∧ j < mo
    · obtain ⟨hlt, h20⟩ := hlt
      have d0 : decide ((j : Int) < (l.length : Int)) = true := decide_eq_true (by omega)
      have d1 : decide ((j : Int) < (mo : Int)) = true := decide_eq_true (by omega)
      obtain ⟨y, hy⟩ : ∃ y, l[j]? = some y := ⟨_, List.getElem?_eq_getElem hlt⟩
      obtain ⟨a1, rfl, hc1⟩ := (HR.out.keep HB.out).2.2 (by omega)
      have k1 := hc1 j _ (by have := row_at encOk_int l j 0 y _ hy rfl; simpa using this)
      have s1 : IntKind.i64.wrap ((j : Int) + 1) = (j : Int) + 1 := IntWalk.i64_in _ (by omega)
      clear hc1 hy
      go_wp2_with fail
      refine (bwithin_any y 0 1048576 _ (by decide) (by decide) (by decide)).mono ?_
      rintro e w1 ⟨rfl, rfl⟩
      generalize withinI y 0 1048576 = n
      go_wp2_with fail
      refine (piece_size _ _ _).mono ?_
      rintro e w2 ⟨z, rfl, hz, b2⟩
      have HB2 := Lib.hid (below_then HB.out HB.out.size b2)
      have hsum : x.size + z.size ≤ 9223372036854775807 := by omega
      have HX2 := Lib.hid (show (x ++ z).size ≤ 60 * (j + 1) by rw [ByteArray.size_append]; omega)
      clear b2
      go_wp2_with fail
      exact ⟨⟨j + 1, x ++ z, by omega, by omega, HX2.out, rfl, by go_num, HB2.out⟩, by simp [intOf]; omega⟩
    · have hcase : (decide ((j : Int) < (l.length : Int)) = false ∧ ¬ j < l.length) ∨ (decide ((j : Int) < (l.length : Int)) = true ∧ decide ((j : Int) < (mo : Int)) = false ∧ j < l.length ∧ ¬ j < mo) := by
        by_cases h1 : j < l.length
        · exact .inr ⟨decide_eq_true (by omega), decide_eq_false (by omega), h1, by omega⟩
        · exact .inl ⟨decide_eq_false (by omega), h1⟩
      have kc := fun (w : World) => run_bytes_of_string (P := Tryz.prog) w 9 27 5 x Tryz.underlying9 Tryz.underlying27 Tryz.underlying5
      have hcell : BytesAt (wr.drew.alloc (.cells (bytesRow x (grownCap wr x.size 0 5)) 5 ((bytesRow x (grownCap wr x.size 0 5)).size, (bytesRow x (grownCap wr x.size 0 5)).size + 1))) wr.heap.size x := fun i hi => by
        rw [add0]
        rw [show wr.heap.size = wr.drew.heap.size from rfl, World.cell?_alloc_mark, bytesRow_at x _ i (by simpa [B] using hi)]
        simp [B]
      have HCE := Lib.hid hcell
      have HBE := Lib.hid (below_then HB.out HB.out.size ((made_drew wr).alloc (made_drew wr).size (.cells (bytesRow x (grownCap wr x.size 0 5)) 5 ((bytesRow x (grownCap wr x.size 0 5)).size, (bytesRow x (grownCap wr x.size 0 5)).size + 1))))
      clear hlt hcell
      rcases hcase with ⟨d0, m0⟩ | ⟨d0, d1, m0, m1⟩
      all_goals
        go_wp2_with fail
        go_ret
        exact ⟨x, _, _, rfl, by omega, HCE.out, HBE.out⟩
end Go.Proofs.YtdjeajbinpgpiaaGreat
