/- arbourkeep.Token, Tokens: of tokens that are the same. -/
import Derived.Test.YtdjeajbinpgpiaaGreatJLexerTells20
import Derived.Test.YtdjeajbinpgpiaaGreatJLexerTells4
import Derived.Test.YtdjeajbinpgpiaaGreatJLexerTells1
import Derived.BigQuiet
import Derived.LoopN
namespace Go.Proofs.YtdjeajbinpgpiaaGreat
open Go.RowKit Go.BigFrame

set_option maxHeartbeats 4000000 in
theorem gtoken_keep (t : Tk) (A1 A2 : Option Addr) (c1 c2 : Nat) (w : World) (h1 : RdA w A1 t.al.length t.al) (h2 : RdA w A2 t.al.length t.al) (hl : t.al.length ≤ 9223372036854775807) :
    Calls Tryz.prog 15 #[tkG t A1 c1, tkG t A2 c2] w fun e w' => e = .returned (.bool true) ∧ Below w.heap.size w w' := by
  obtain ⟨kd, nm, al, sf, tx⟩ := t
  unfold tkG
  simp only at *
  have hb0 := (below_tokG w #[.int .i64 kd, .string nm, .slice A1 al.length c1, .bool sf, .string tx]).alloc (by simp) (.cells #[.int .i64 kd, .string nm, .slice A2 al.length c2, .bool sf, .string tx] 44)
  have HB0 := Lib.hid hb0
  have hA0 := (Blk.new w 44 #[.int .i64 kd, .string nm, .slice A1 al.length c1, .bool sf, .string tx] (0, 0)).alloc (.cells #[.int .i64 kd, .string nm, .slice A2 al.length c2, .bool sf, .string tx] 44)
  have hA1 := Blk.new (w.alloc (.cells #[.int .i64 kd, .string nm, .slice A1 al.length c1, .bool sf, .string tx] 44)) 44 #[.int .i64 kd, .string nm, .slice A2 al.length c2, .bool sf, .string tx] (0, 0)
  rw [show (w.alloc (.cells #[.int .i64 kd, .string nm, .slice A1 al.length c1, .bool sf, .string tx] 44)).heap.size = w.heap.size + 1 by simp] at hA1
  have HA0 := Lib.hid hA0
  have HA1 := Lib.hid hA1
  have HA := Lib.hid (attrs_keep _ A1 A2 al.length al.length c1 c2 al al (h1.keep hb0) (h2.keep hb0) hl)
  rw [decide_eq_true rfl] at HA
  obtain ⟨p0, p1, p2, p3, p4, _⟩ := cells_tokG hA0
  obtain ⟨q0, q1, q2, q3, q4, _⟩ := cells_tokG hA1
  clear hb0 hA0 hA1 h1 h2
  have t1 : (nm.toList == nm.toList) = true := by simp
  have t2 : (tx.toList == tx.toList) = true := by simp
  have t3 : (kd == kd) = true := by simp
  have t4 : (sf == sf) = true := by simp
  go_enter Tryz.func15, Tryz.ntmps15
  go_wp2_with fail
  clear p0 p1 p2 p3 p4 q0 q1 q2 q3 q4
  refine HA.out.mono ?_
  rintro e w1 ⟨rfl, b1⟩
  obtain ⟨p0, p1, p2, p3, p4, _⟩ := cells_tokG (HA0.out.keep b1)
  obtain ⟨q0, q1, q2, q3, q4, _⟩ := cells_tokG (HA1.out.keep b1)
  have HB1 := Lib.hid (below_then HB0.out HB0.out.size b1)
  clear b1
  go_wp2_with fail
  go_ret
  exact ⟨rfl, HB1.out⟩

set_option maxHeartbeats 4000000 in
theorem gtokens_keep (w : World) (A1 A2 : Option Addr) (n c1 c2 : Nat) (l1 l2 : List Tq) (h1 : RdK w A1 n l1) (h2 : RdK w A2 n l2) (he : l1.map Tq.t = l2.map Tq.t) (hn : n ≤ 9223372036854775807) (ha : ∀ m ∈ l1, m.t.al.length ≤ 70000) :
    Calls Tryz.prog 19 #[.slice A1 n c1, .slice A2 n c2] w fun e w' => e = .returned (.bool true) ∧ Below w.heap.size w w' := by
  have H1 := Lib.hid h1
  have H2 := Lib.hid h2
  have HL1 := Lib.hid h1.1
  have HL2 := Lib.hid h2.1
  have HE := Lib.hid he
  have HA := Lib.hid ha
  clear h1 h2 he ha
  go_enter Tryz.func19, Tryz.ntmps19
  go_wp2_with fail
  go_loopw [5] (fun i wr => ∃ j : Nat, j ≤ n ∧ i = .int .i64 j ∧ Below w.heap.size w wr) (fun i _ => n - (intOf i).toNat)
  case atStart => exact ⟨0, Nat.zero_le _, rfl, Below.refl _ _⟩
  case round =>
    obtain ⟨j, hj, rfl, hb⟩ := hrel
    have HB := Lib.hid hb
    by_cases hlt : j < n
    · have d0 : decide ((j : Int) < (n : Int)) = true := decide_eq_true (by omega)
      obtain ⟨x, hx⟩ : ∃ x, l1[j]? = some x := ⟨_, List.getElem?_eq_getElem (by have := HL1.out; omega)⟩
      obtain ⟨y, hy⟩ : ∃ y, l2[j]? = some y := ⟨_, List.getElem?_eq_getElem (by have := HL2.out; omega)⟩
      have hxy : x.t = y.t := by
        have e1 : (l1.map Tq.t)[j]? = some x.t := by rw [List.getElem?_map, hx]; rfl
        have e2 : (l2.map Tq.t)[j]? = some y.t := by rw [List.getElem?_map, hy]; rfl
        rw [HE.out, e2] at e1
        exact (Option.some.inj e1).symm
      obtain ⟨a1, rfl, _⟩ := rdK_at (H1.out.keep hb) hx
      obtain ⟨a2, rfl, _⟩ := rdK_at (H2.out.keep hb) hy
      have K1 := Lib.hid (fun W (hW : Below wr.heap.size wr W) => rdK_at ((H1.out.keep hb).keep hW) hx)
      have K2 := Lib.hid (fun W (hW : Below wr.heap.size wr W) => rdK_at ((H2.out.keep hb).keep hW) hy)
      have hml := HA.out x (List.mem_of_getElem? hx)
      have hm1 := (H1.out.keep hb).2.2 x (List.mem_of_getElem? hx)
      have hm2 := (H2.out.keep hb).2.2 y (List.mem_of_getElem? hy)
      obtain ⟨x, B1, d1⟩ := x
      obtain ⟨y, B2, d2⟩ := y
      simp only at hxy
      subst hxy
      have HT := Lib.hid (fun W (hW : Below wr.heap.size wr W) => gtoken_keep x B1 B2 d1 d2 W (hm1.keep hW) (hm2.keep hW) (by simp only at hml; omega))
      unfold tkG at HT
      have s1 : IntKind.i64.wrap ((j : Int) + 1) = (j : Int) + 1 := IntWalk.i64_in _ (by omega)
      have u0 : ∀ n : After wr, n.W.cell? (a1.add (j * 5)) = some (.int .i64 x.kd) := fun n => by obtain ⟨a, e, k0, k1, k2, k3, k4⟩ := K1.out _ n.below; cases e; exact k0
      have u1 : ∀ n : After wr, n.W.cell? { a1.add (j * 5) with off := (a1.add (j * 5)).off + 1, spot := none } = some (.string x.nm) := fun n => by obtain ⟨a, e, k0, k1, k2, k3, k4⟩ := K1.out _ n.below; cases e; exact k1
      have u2 : ∀ n : After wr, n.W.cell? { a1.add (j * 5) with off := (a1.add (j * 5)).off + 2, spot := none } = some (.slice B1 x.al.length d1) := fun n => by obtain ⟨a, e, k0, k1, k2, k3, k4⟩ := K1.out _ n.below; cases e; exact k2
      have u3 : ∀ n : After wr, n.W.cell? { a1.add (j * 5) with off := (a1.add (j * 5)).off + 3, spot := none } = some (.bool x.sf) := fun n => by obtain ⟨a, e, k0, k1, k2, k3, k4⟩ := K1.out _ n.below; cases e; exact k3
      have u4 : ∀ n : After wr, n.W.cell? { a1.add (j * 5) with off := (a1.add (j * 5)).off + 4, spot := none } = some (.string x.tx) := fun n => by obtain ⟨a, e, k0, k1, k2, k3, k4⟩ := K1.out _ n.below; cases e; exact k4
      have v0 : ∀ n : After wr, n.W.cell? (a2.add (j * 5)) = some (.int .i64 x.kd) := fun n => by obtain ⟨a, e, k0, k1, k2, k3, k4⟩ := K2.out _ n.below; cases e; exact k0
      have v1 : ∀ n : After wr, n.W.cell? { a2.add (j * 5) with off := (a2.add (j * 5)).off + 1, spot := none } = some (.string x.nm) := fun n => by obtain ⟨a, e, k0, k1, k2, k3, k4⟩ := K2.out _ n.below; cases e; exact k1
      have v2 : ∀ n : After wr, n.W.cell? { a2.add (j * 5) with off := (a2.add (j * 5)).off + 2, spot := none } = some (.slice B2 x.al.length d2) := fun n => by obtain ⟨a, e, k0, k1, k2, k3, k4⟩ := K2.out _ n.below; cases e; exact k2
      have v3 : ∀ n : After wr, n.W.cell? { a2.add (j * 5) with off := (a2.add (j * 5)).off + 3, spot := none } = some (.bool x.sf) := fun n => by obtain ⟨a, e, k0, k1, k2, k3, k4⟩ := K2.out _ n.below; cases e; exact k3
      have v4 : ∀ n : After wr, n.W.cell? { a2.add (j * 5) with off := (a2.add (j * 5)).off + 4, spot := none } = some (.string x.tx) := fun n => by obtain ⟨a, e, k0, k1, k2, k3, k4⟩ := K2.out _ n.below; cases e; exact k4
      clear hx hy hml hm1 hm2 hb
      go_wp2_with fail
      refine wp_region_after (by kernel_rfl) (by kernel_rfl) ?_
      repeat (any_goals (go_big_quiet_step ((go_at_call 15; with_reducible exact call_after (HT.out _ (After.below _))))))
      refine wpQuiet_nil ?_
      rintro w' ⟨m, rfl⟩
      clear u0 u1 u2 u3 u4 v0 v1 v2 v3 v4
      have HM := Lib.hid (below_then HB.out HB.out.size m.below)
      go_wp2_with fail
      exact ⟨⟨j + 1, by omega, by go_num, HM.out⟩, by simp [intOf]; omega⟩
    · have d0 : decide ((j : Int) < (n : Int)) = false := decide_eq_false (by omega)
      clear hb
      go_wp2_with fail
      go_ret
      exact ⟨rfl, HB.out⟩
end Go.Proofs.YtdjeajbinpgpiaaGreat
