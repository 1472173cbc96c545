/- The reference's lexer: marks. -/
import Derived.Test.YtdjeajbinpgpiaaGreatJLexerTells20
import Derived.Test.YtdjeajbinpgpiaaGreatJLexerTellsTagRR
import Derived.Test.YtdjeajbinpgpiaaGreatJLexerTellsMarkRef
namespace Go.Proofs.YtdjeajbinpgpiaaGreat
open Go.RowKit Go.BigFrame

set_option maxHeartbeats 8000000 in
set_option maxRecDepth 100000 in
theorem rfmarks_any (p : Nat) (x : ByteArray) (s : Lx) (k : Nat) (w : World) (h : RefAt w p x s) (hxs : x.size ≤ 65536) :
    Calls Tryz.prog 29 #[.pointer (some ⟨p, 0, none⟩), .int .i64 (k : Int)] w fun e w' => e = .returned (.bool (markedX (B x) s.fo k)) ∧ Below w.heap.size w w' := by
  obtain ⟨a, mo, fo, st⟩ := s
  simp only at *
  have hm : markedX (B x) fo k = ((readM (B x) k fo).2.2 || ((readT (B x) k).2.2 || (readT (B x) k).2.1 != (k : Int))) := rfl
  have HM := Lib.hid (fun W => rread_any x (k : Int) fo W hxs)
  have HT := Lib.hid (rtread_any x w hxs (k : Int))
  have KS := Lib.hid (fun W (hW : Below w.heap.size w W) => (show W.cell? ⟨p, 0, none⟩ = some (.string x) ∧ W.cell? ⟨p, 4, none⟩ = some (.bool fo) from ⟨(h.keep hW).cells.1, (h.keep hW).cells.2.2.2.2.1⟩))
  obtain ⟨k0, k1, k2, k3, k4, _⟩ := h.cells
  generalize readM (B x) k fo = rm at *
  generalize readT (B x) k = rt at *
  obtain ⟨⟨mk, mn, mt⟩, mto, mok⟩ := rm
  obtain ⟨⟨tk, tn, ta, tsf⟩, tto, tok⟩ := rt
  simp only [valM, tkM] at HM hm
  unfold ReadOut tkV at HT
  simp only at HT
  rw [hm]
  obtain ⟨nb, hnb⟩ : ∃ b, (tto != (k : Int)) = b := ⟨_, rfl⟩
  rw [hnb]
  have HNB := Lib.hid hnb
  clear hnb h hm
  go_enter Tryz.func29, Tryz.ntmps29
  go_wp2_with fail
  refine HT.out.mono ?_
  rintro e w3 ⟨A, c, rfl, hrd, hrw, b3⟩
  have hb4 := made_alloc b3 (.cells #[.int .i64 tk, .string (S tn), .slice A ta.length c, .bool tsf, .string ⟨#[]⟩] 44)
  obtain ⟨w4, hw4⟩ : ∃ w4, w4 = w3.alloc (.cells #[.int .i64 tk, .string (S tn), .slice A ta.length c, .bool tsf, .string ⟨#[]⟩] 44) := ⟨_, rfl⟩
  rw [← hw4] at hb4
  have HW4 := Lib.hid hw4.symm
  have HB4 := Lib.hid hb4
  have HDB := Lib.hid (made_drew w4)
  have HDA := Lib.hid (tok_alloc_below w4 #[.int .i64 0, .string ⟨#[]⟩, .slice none 0 0, .bool false, .string ⟨#[]⟩])
  have HZA := Lib.hid (show Blk (w4.alloc (.cells #[.int .i64 0, .string ⟨#[]⟩, .slice none 0 0, .bool false, .string ⟨#[]⟩] 44)).drew w4.heap.size 44 #[.int .i64 0, .string ⟨#[]⟩, .slice none 0 0, .bool false, .string ⟨#[]⟩] (0, 0) from Blk.new w4 _ _ _)
  have HMB := Lib.hid (HM.out w4.drew)
  have HMA := Lib.hid (HM.out (w4.alloc (.cells #[.int .i64 0, .string ⟨#[]⟩, .slice none 0 0, .bool false, .string ⟨#[]⟩] 44)).drew)
  have KS4 := Lib.hid (fun W (hW : Below w4.heap.size w4 W) => KS.out W (below_then hb4 hb4.size hW))
  clear hrd hrw b3 hb4 hw4 HM KS HT
  go_upto_region 2 with (fail)
  rw [HW4.out]
  clear k0 k1 k2 k3 k4
  go_region_held3 (fun W => W.cell? ⟨p, 0, none⟩ = some (.string x) ∧ W.cell? ⟨p, 4, none⟩ = some (.bool fo))
    (first
      | exact KS4.out _ HBW.out
      | exact KS4.out _ HDB.out
      | exact KS4.out _ HDA.out
      | exact KS4.out _ (made_alloc HBW.out _)
      | exact KS4.out _ (set5_belowG HBW.out (Nat.le_refl _) _ _ _ _ _))
    ((go_at_call 31
      first
        | (with_reducible refine HMB.out.mono ?_
           rintro e w5 ⟨rfl, b5⟩
           have HBW := Lib.hid (below_then HDB.out HDB.out.size b5)
           clear b5)
        | (with_reducible refine HMA.out.mono ?_
           rintro e w5 ⟨rfl, b5⟩
           have HBW := Lib.hid (below_then HDA.out HDA.out.size b5)
           obtain ⟨z0, z1, z2, z3, z4, f0, f1, f2, f3, f4⟩ := cells_tokG (HZA.out.keep b5)
           clear b5)))
  all_goals
    have hnb := HNB.out
    cases tok <;> cases nb <;> cases mok
    all_goals
      go_wp2_with fail
      go_ret
      refine ⟨rfl, ?_⟩
      first
        | exact below_then HB4.out HB4.out.size (made_alloc HBW.out _)
        | exact below_then HB4.out HB4.out.size (set5_belowG HBW.out (Nat.le_refl _) _ _ _ _ _)
end Go.Proofs.YtdjeajbinpgpiaaGreat
