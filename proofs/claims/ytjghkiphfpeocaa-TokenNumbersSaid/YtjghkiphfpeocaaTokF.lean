/- arbourkeep.Few: a token made small. -/
import Derived.Test.YtjghkiphfpeocaaTokS
import Derived.Test.YtjghkiphfpeocaaTk0
import Derived.Laws.Rows
import Derived.KernelRfl
namespace Go.Proofs.Ytjghkiphfpeocaa
open Go.RowKit

def fewT (t : Tk) : Tk := ⟨t.kd, headB t.nm 20, shortA t.al, t.sf, headB t.tx 60⟩

set_option maxHeartbeats 4000000 in
set_option maxRecDepth 100000 in
theorem few_any (t : Tk) (A : Option Addr) (c : Nat) (w : World) (h : RdA w A t.al.length t.al) (hok : t.ok) :
    Calls Try.prog 15 #[tkG t A c] w (TokOut w (fewT t)) := by
  obtain ⟨kd, nm, al, sf, tx⟩ := t
  obtain ⟨hnm, htx, hal, hx⟩ := hok
  unfold tkG
  simp only at *
  have hb0 := (below_tokG w #[.int .i64 kd, .string nm, .slice A al.length c, .bool sf, .string tx]).alloc (by simp) (.cells #[.int .i64 0, .string ⟨#[]⟩, .slice none 0 0, .bool false, .string ⟨#[]⟩] 34)
  have hT := (Blk.new w 34 #[.int .i64 kd, .string nm, .slice A al.length c, .bool sf, .string tx] (0, 0)).alloc (.cells #[.int .i64 0, .string ⟨#[]⟩, .slice none 0 0, .bool false, .string ⟨#[]⟩] 34)
  have hZ := Blk.new (w.alloc (.cells #[.int .i64 kd, .string nm, .slice A al.length c, .bool sf, .string tx] 34)) 34 #[.int .i64 0, .string ⟨#[]⟩, .slice none 0 0, .bool false, .string ⟨#[]⟩] (0, 0)
  rw [show (w.alloc (.cells #[.int .i64 kd, .string nm, .slice A al.length c, .bool sf, .string tx] 34)).heap.size = w.heap.size + 1 by simp] at hZ
  have hR := h.keep hb0
  obtain ⟨_, p1, _⟩ := cells_tokG hT
  obtain ⟨W0, hW0⟩ : ∃ W0, W0 = (w.alloc (.cells #[.int .i64 kd, .string nm, .slice A al.length c, .bool sf, .string tx] 34)).alloc (.cells #[.int .i64 0, .string ⟨#[]⟩, .slice none 0 0, .bool false, .string ⟨#[]⟩] 34) := ⟨_, rfl⟩
  have HW := Lib.hid hW0.symm
  rw [← hW0] at hb0 hT hZ hR
  have hsz : W0.heap.size = w.heap.size + 2 := by rw [hW0]; simp
  have HN := Lib.hid (fun W => head_short nm 20 W (by decide) hnm)
  have HX := Lib.hid (fun W => head_short tx 60 W (by decide) htx)
  rw [show (20 : Int).toNat = 20 from rfl] at HN
  rw [show (60 : Int).toNat = 60 from rfl] at HX
  unfold fewT
  simp only
  generalize headB nm 20 = nm2 at *
  generalize headB tx 60 = tx2 at *
  clear hW0
  have h1 : Blk (W0.setCell ⟨w.heap.size, 1, none⟩ (.string nm2)) w.heap.size 34 #[.int .i64 kd, .string nm2, .slice A al.length c, .bool sf, .string tx] (0, 0) := hT.set 1 _
  have h2 : Blk ((W0.setCell ⟨w.heap.size, 1, none⟩ (.string nm2)).setCell ⟨w.heap.size, 4, none⟩ (.string tx2)) w.heap.size 34 #[.int .i64 kd, .string nm2, .slice A al.length c, .bool sf, .string tx2] (0, 0) := h1.set 4 _
  have z1 := hZ.far (p := ⟨w.heap.size, 1, none⟩) (by simp) (.string nm2)
  have z2 := z1.far (p := ⟨w.heap.size, 4, none⟩) (by simp) (.string tx2)
  have b1 := hb0.setCell (p := ⟨w.heap.size, 1, none⟩) (Nat.le_refl _) (.string nm2)
  have b2 := b1.setCell (p := ⟨w.heap.size, 4, none⟩) (Nat.le_refl _) (.string tx2)
  have hR2 := h.keep b2
  have hs2 : ((W0.setCell ⟨w.heap.size, 1, none⟩ (.string nm2)).setCell ⟨w.heap.size, 4, none⟩ (.string tx2)).heap.size = w.heap.size + 2 := by rw [World.size_setCell, World.size_setCell, hsz]
  have HS := Lib.hid (short_keep _ A al.length c al hR2 hx hal)
  have HT := Lib.hid hT
  have H1 := Lib.hid h1
  have H2 := Lib.hid h2
  have HZ2 := Lib.hid z2
  have HB2 := Lib.hid b2
  have HS2 := Lib.hid hs2
  obtain ⟨_, _, _, _, _, _, f1, _⟩ := cells_tokG hT
  obtain ⟨_, _, _, _, m4, _, _, _, _, g4⟩ := cells_tokG h1
  obtain ⟨_, _, n2, _⟩ := cells_tokG h2
  clear h hb0 hT hZ hR h1 h2 z1 z2 b1 b2 hR2 hs2 hsz hx
  go_enter Try.func15, Try.ntmps15
  go_wp2_with fail
  clear p1
  rw [HW.out]
  refine (HN.out _).mono ?_
  rintro e w1 ⟨rfl, rfl⟩
  go_wp2_with fail
  refine (HX.out _).mono ?_
  rintro e w1 ⟨rfl, rfl⟩
  go_wp2_with fail
  refine HS.out.mono ?_
  rintro e w3 ⟨v, rfl, hrow, b3⟩
  obtain ⟨A3, c3, rfl, _⟩ := hrow.read
  have h3 := H2.out.keep b3
  have z3 := HZ2.out.keep b3
  have hb3 := HB2.out.trans (b3.mono (by rw [HS2.out]; omega))
  have hrow2 := hrow.le (base' := w.heap.size) (by rw [HS2.out]; omega)
  generalize shortA al = sl at *
  have h4 : Blk (w3.setCell ⟨w.heap.size, 2, none⟩ (.slice A3 sl.length c3)) w.heap.size 34 #[.int .i64 kd, .string nm2, .slice A3 sl.length c3, .bool sf, .string tx2] (0, 0) := h3.set 2 _
  have z4 := z3.far (p := ⟨w.heap.size, 2, none⟩) (by simp) (.slice A3 sl.length c3)
  have b4 := hb3.setCell (p := ⟨w.heap.size, 2, none⟩) (Nat.le_refl _) (.slice A3 sl.length c3)
  have r4 := hrow2.set h3 tokat_ne 2 (.slice A3 sl.length c3)
  obtain ⟨k0, k1, k2, k3, k4, _⟩ := cells_tokG h4
  obtain ⟨_, _, _, _, _, y0, y1, y2, y3, y4⟩ := cells_tokG z4
  obtain ⟨_, _, _, _, _, _, _, x2, _⟩ := cells_tokG h3
  obtain ⟨z5, r5⟩ := set5_tokG z4 r4 (.int .i64 kd) (.string nm2) (.slice A3 sl.length c3) (.bool sf) (.string tx2)
  have b5 := set5_belowG b4 (Nat.le_succ _) (.int .i64 kd) (.string nm2) (.slice A3 sl.length c3) (.bool sf) (.string tx2)
  obtain ⟨q0, q1, q2, q3, q4, _⟩ := cells_tokG z5
  have HR5 := Lib.hid r5
  have HZ5 := Lib.hid z5
  have HB5 := Lib.hid b5
  clear h3 z3 hb3 hrow hrow2 h4 z4 b4 r4 z5 r5 b5 b3
  go_wp2_with fail
  refine bodyPost_ret (v := .agg #[.int .i64 kd, .string nm2, .slice A3 sl.length c3, .bool sf, .string tx2]) (results_cell_row (fn := Try.f15) (p := 2) rfl _ _ (w.heap.size + 1) _ #[.int .i64 kd, .string nm2, .slice A3 sl.length c3, .bool sf, .string tx2] (0, 0) _ (by rfl) HZ5.out Try.underlying34 (by rfl) (by kernel_rfl)) rfl ?_
  exact ⟨A3, c3, rfl, HR5.out, HB5.out⟩
end Go.Proofs.Ytjghkiphfpeocaa
