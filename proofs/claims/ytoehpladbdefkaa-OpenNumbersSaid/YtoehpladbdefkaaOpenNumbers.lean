/- OpenNumbers, walked. -/
import Derived.Test.YtoehpladbdefkaaOpenPlays
namespace Go.Proofs.Ytoehpladbdefkaa
open Go.RowKit Go.BigFrame

def openN (k n : Int) (b : Bool) : List As :=
  [⟨1, 1, 0, 0, false⟩, ⟨1, 2, n, 0, b⟩, ⟨1, 3, 1, 0, false⟩, ⟨10, k, 0, 2, false⟩, ⟨7, 0, 0, 0, false⟩, ⟨8, 0, 0, 0, false⟩, ⟨2, 0, 0, 0, false⟩, ⟨7, 0, 9, 0, false⟩, ⟨8, 0, 0, 0, false⟩, ⟨9, 0, 0, 6, false⟩, ⟨6, 0, n, 3, false⟩]
theorem blk_asks {w : World} {g j : Nat} {l : List As} {y : As} (h : Blk w g 53 (l.flatMap enc_as).toArray (0, 0)) (hy : l[j]? = some y) :
    w.cell? ⟨g, j * 5, none⟩ = some (.int .i64 y.kind) ∧ w.cell? ⟨g, j * 5 + 1, none⟩ = some (.int .i64 y.h) ∧ w.cell? ⟨g, j * 5 + 2, none⟩ = some (.int .i64 y.n) ∧ w.cell? ⟨g, j * 5 + 3, none⟩ = some (.int .i64 y.m) ∧ w.cell? ⟨g, j * 5 + 4, none⟩ = some (.bool y.svg) := by
  have at' : ∀ i u, (enc_as y)[i]? = some u → w.cell? ⟨g, j * 5 + i, none⟩ = some u := fun i u hu => by
    rw [h.cell, List.getElem?_toArray]
    exact row_at encOk_as l j i y u hy hu
  exact ⟨at' 0 _ rfl, at' 1 _ rfl, at' 2 _ rfl, at' 3 _ rfl, at' 4 _ rfl⟩
theorem openN_new (w : World) (k n : Int) (b : Bool) (cs : Array Value) (hcs : cs = ((openN k n b).flatMap enc_as).toArray) : Blk (w.alloc (.cells cs 53)) w.heap.size 53 ((openN k n b).flatMap enc_as).toArray (0, 0) := by
  subst hcs
  exact Blk.new w _ _ _

set_option maxHeartbeats 8000000 in
set_option maxRecDepth 100000 in
theorem walk_OpenNumbers (w : World) :
    Calls Try.prog 10 #[] w fun e w' => e = .returned (.bool true) ∧ Below w.heap.size w w' := by
  go_enter Try.func10, Try.ntmps10
  go_wp2_with fail
  go_loopw [1] (fun kv wr => ∃ k : Nat, k ≤ 6 ∧ kv = .int .i64 k ∧ Below w.heap.size w wr) (fun kv _ => 6 - (intOf kv).toNat)
  case atStart => exact ⟨0, by omega, rfl, Below.refl _ _⟩
  case round =>
    obtain ⟨k, hk, rfl, hb⟩ := hrel
    have HB := Lib.hid hb
    clear hb
    by_cases hlt : k < 6
    · have d0 : decide ((k : Int) < 6) = true := decide_eq_true (by omega)
      have s1 : IntKind.i64.wrap ((k : Int) + 1) = (k : Int) + 1 := IntWalk.i64_in _ (by omega)
      go_wp2_with fail
      go_loopw [2] (fun nv wr => ∃ n : Nat, n ≤ 48 ∧ nv = .int .i64 n ∧ Below w.heap.size w wr) (fun nv _ => 48 - (intOf nv).toNat)
      case atStart => exact ⟨0, by omega, rfl, HB.out⟩
      case round =>
        clear HB
        obtain ⟨n, hn, rfl, hb⟩ := hrel
        have HB := Lib.hid hb
        clear hb
        by_cases hln : n < 48
        · have d1 : decide ((n : Int) < 48) = true := decide_eq_true (by omega)
          have s2 : IntKind.i64.wrap ((n : Int) + 1) = (n : Int) + 1 := IntWalk.i64_in _ (by omega)
          go_wp2_with fail
          go_loopw [3] (fun sv wr => ∃ s : Nat, s ≤ 2 ∧ sv = .int .i64 s ∧ Below w.heap.size w wr) (fun sv _ => 2 - (intOf sv).toNat)
          case atStart => exact ⟨0, by omega, rfl, HB.out⟩
          case round =>
            clear HB
            obtain ⟨s, hs, rfl, hb⟩ := hrel
            have HB := Lib.hid hb
            clear hb
            by_cases hls : s < 2
            · have d2 : decide ((s : Int) < 2) = true := decide_eq_true (by omega)
              have s3 : IntKind.i64.wrap ((s : Int) + 1) = (s : Int) + 1 := IntWalk.i64_in _ (by omega)
              obtain ⟨bb, hbb⟩ : ∃ b, ((s : Int) == 1) = b := ⟨_, rfl⟩
              go_wp2_with fail
              refine (newL_item w.heap.size _ HB.out.size).mono ?_
              rintro e w1 ⟨q, rfl, h1, b1⟩
              have HG := Lib.hid (fun W (hW : Below w1.heap.size w1 W) (hl : w1.heap.size < W.heap.size) => LG.laid (LM.new h1) hW hl)
              have HB1 := Lib.hid (below_then HB.out HB.out.size b1)
              clear h1 b1
              go_wp2_with fail
              generalize hw2 : w1.alloc _ = w2 at *
              have HK := Lib.hid (show Blk w2 w1.heap.size 53 ((openN k n bb).flatMap enc_as).toArray (0, 0) by rw [← hw2]; exact openN_new w1 k n bb _ rfl)
              have hb2 : Below w1.heap.size w1 w2 := by rw [← hw2]; exact (Below.refl _ _).alloc (Nat.le_refl _) _
              have HL2 := Lib.hid (HG.out w2 hb2 HK.out.lt)
              have HB2 := Lib.hid (below_then HB1.out HB1.out.size hb2)
              clear hw2 hb2 HG HB1
              generalize w1.heap.size = g at *
              go_loopw [42, 5, 6] (fun jv mv okv wr => ∃ (j : Nat) (lr : List It) (A' : Option Addr) (n' c' : Nat), j ≤ 11 ∧ jv = .int .i64 j ∧ mv = .slice A' n' c' ∧ okv = .bool true ∧ LG (fun k => k = g) w.heap.size wr q lr (.slice A' n' c') lr ∧ (∀ y ∈ lr, bareI y) ∧ n' = lr.length ∧ n' ≤ j ∧ Below w.heap.size w wr ∧ Blk wr g 53 ((openN k n bb).flatMap enc_as).toArray (0, 0)) (fun jv _ _ _ => 11 - (intOf jv).toNat)
              case atStart => exact ⟨0, [], none, 0, 0, by omega, rfl, rfl, rfl, HL2.out, by simp, rfl, Nat.le_refl _, HB2.out, HK.out⟩
              case round =>
                obtain ⟨j, lr, A', n', c', hj, rfl, rfl, rfl, hlm, hbare, hnl, hnj, hbr, hbk⟩ := hrel
                have HLM := Lib.hid hlm
                have HB4 := Lib.hid hbr
                have HBA := Lib.hid hbare
                have HN := Lib.hid hnl
                have HBK := Lib.hid hbk
                clear hlm hbr hbare hnl hbk HK HL2 HB2
                by_cases hlj : j < 11
                · have d3 : decide ((j : Int) < 11) = true := decide_eq_true (by omega)
                  have s4 : IntKind.i64.wrap ((j : Int) + 1) = (j : Int) + 1 := IntWalk.i64_in _ (by omega)
                  obtain ⟨y, hy⟩ : ∃ y, (openN k n bb)[j]? = some y := ⟨_, List.getElem?_eq_getElem (show j < (openN k n bb).length from hlj)⟩
                  obtain ⟨k0, k1, k2, k3, k4⟩ := blk_asks HBK.out hy
                  have HDO := Lib.hid (fun W hW => do_any _ w.heap.size W q lr A' n' c' y (HLM.out.keep hW) HBA.out HN.out (by omega))
                  have HBW : Hid (Below (World.heap wr).size wr (wr.alloc (.cells #[.int .i64 y.kind, .int .i64 y.h, .int .i64 y.n, .int .i64 y.m, .bool y.svg] 53))) := (Below.refl _ _).alloc (Nat.le_refl _) _
                  clear hy
                  go_wp2_with fail
                  refine (HDO.out _ HBW.out).mono ?_
                  rintro e w3 ⟨A3, n3, c3, l3, rfl, g1, g2, g3, g4, g5, g6⟩
                  have HLM3 := Lib.hid g1
                  have HBA3 := Lib.hid g2
                  have HN3 := Lib.hid g3
                  have HB3 := Lib.hid ((below_then HB4.out HB4.out.size HBW.out).trans g5)
                  have HBK3 := Lib.hid (show Blk w3 g 53 ((openN k n bb).flatMap enc_as).toArray (0, 0) from (g6 g rfl).trans (HBK.out.keep HBW.out))
                  clear g1 g2 g3 g5 g6 k0 k1 k2 k3 k4
                  go_wp2_with fail
                  exact ⟨⟨j + 1, l3, A3, n3, c3, by omega, by go_num, rfl, rfl, HLM3.out, HBA3.out, HN3.out, by omega, HB3.out, HBK3.out⟩, by simp [intOf]; omega⟩
                · have d3 : decide ((j : Int) < 11) = false := decide_eq_false (by omega)
                  go_wp2_with fail
                  exact ⟨⟨s + 1, by omega, by go_num, HB4.out⟩, by simp [intOf]; omega⟩
            · have d2 : decide ((s : Int) < 2) = false := decide_eq_false (by omega)
              go_wp2_with fail
              exact ⟨⟨n + 1, by omega, by go_num, HB.out⟩, by simp [intOf]; omega⟩
        · have d1 : decide ((n : Int) < 48) = false := decide_eq_false (by omega)
          go_wp2_with fail
          exact ⟨⟨k + 1, by omega, by go_num, HB.out⟩, by simp [intOf]; omega⟩
    · have d0 : decide ((k : Int) < 6) = false := decide_eq_false (by omega)
      go_wp2_with fail
      refine (knownOpen_any _).mono ?_
      rintro e w3 ⟨rfl, b1⟩
      have HB5 := Lib.hid (below_then HB.out HB.out.size b1)
      clear b1
      go_wp2_with fail
      go_ret
      exact ⟨rfl, HB5.out⟩
end Go.Proofs.Ytoehpladbdefkaa
