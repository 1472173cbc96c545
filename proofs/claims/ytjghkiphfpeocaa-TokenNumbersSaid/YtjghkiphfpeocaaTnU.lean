/- arbourlaw8.same at the tokens of TokenNumbers. -/
import Derived.Test.YtjghkiphfpeocaaTnH
import Derived.Test.YtjghkiphfpeocaaTnT
namespace Go.Proofs.Ytjghkiphfpeocaa
open Go.RowKit Go.BigFrame

set_option maxRecDepth 100000 in
set_option maxHeartbeats 8000000 in
theorem tn_same (kd : Int) (nm : ByteArray) (hn : nm ∈ names7) (al : List At) (hl : al ∈ lists4) (sf : Bool) (tx : ByteArray) (A : Option Addr) (c : Nat) (w : World) (h : RdA w A al.length al) (hf : (Tk.mk kd nm al sf tx).fits) (hb : al.length ≤ 65536) :
    Calls Try.prog 21 #[.agg #[.int .i64 kd, .string nm, .slice A al.length c, .bool sf, .string tx], .agg #[.int .i64 kd, .string ⟨#[112]⟩, .slice none 0 0, .bool false, .string ⟨#[]⟩]] w fun e w' => e = .returned (.bool true) ∧ Below w.heap.size w w' := by
  have hb0 := (below_tokG w #[.int .i64 kd, .string nm, .slice A al.length c, .bool sf, .string tx]).alloc (by simp) (.cells #[.int .i64 kd, .string ⟨#[112]⟩, .slice none 0 0, .bool false, .string ⟨#[]⟩] 34)
  have HB0 := Lib.hid hb0
  have hA0 := (Blk.new w 34 #[.int .i64 kd, .string nm, .slice A al.length c, .bool sf, .string tx] (0, 0)).alloc (.cells #[.int .i64 kd, .string ⟨#[112]⟩, .slice none 0 0, .bool false, .string ⟨#[]⟩] 34)
  have hA1 := Blk.new (w.alloc (.cells #[.int .i64 kd, .string nm, .slice A al.length c, .bool sf, .string tx] 34)) 34 #[.int .i64 kd, .string ⟨#[112]⟩, .slice none 0 0, .bool false, .string ⟨#[]⟩] (0, 0)
  rw [show (w.alloc (.cells #[.int .i64 kd, .string nm, .slice A al.length c, .bool sf, .string tx] 34)).heap.size = w.heap.size + 1 by simp] at hA1
  obtain ⟨wz, hwz⟩ : ∃ wz, wz = (w.alloc (.cells #[.int .i64 kd, .string nm, .slice A al.length c, .bool sf, .string tx] 34)).alloc (.cells #[.int .i64 kd, .string ⟨#[112]⟩, .slice none 0 0, .bool false, .string ⟨#[]⟩] 34) := ⟨_, rfl⟩
  rw [← hwz] at hA0 hA1 hb0
  have HWZ := Lib.hid hwz
  have HR := Lib.hid (fun W (hW : Below wz.heap.size wz W) => (h.keep hb0).keep hW)
  have H1 : Hid (∀ W, Below wz.heap.size wz W → Calls Try.prog 23 #[.agg #[.int .i64 kd, .string nm, .slice A al.length c, .bool sf, .string tx]] W fun e w' => e = .returned (.bool (rightB kd nm al sf tx)) ∧ Below W.heap.size W w') := fun W hW => right_gen kd nm hn al hl sf tx A c W (HR.out W hW)
  have H2 : Hid (∀ W, Below wz.heap.size wz W → Calls Try.prog 29 #[.agg #[.int .i64 kd, .string nm, .slice A al.length c, .bool sf, .string tx]] W fun e w' => e = .returned (.bool (rightB kd nm al sf tx)) ∧ Below W.heap.size W w') := fun W hW => rr_gen kd nm hn al hl sf tx A c W (HR.out W hW)
  have H3 : Hid (∀ W, Below wz.heap.size wz W → Calls Try.prog 19 #[.agg #[.int .i64 kd, .string nm, .slice A al.length c, .bool sf, .string tx]] W fun e w' => e = .returned (.string (textT ⟨kd, nm, al, sf, tx⟩)) ∧ Below W.heap.size W w') := fun W hW => text_any ⟨kd, nm, al, sf, tx⟩ A c W hf (by simp only; omega) (HR.out W hW)
  have H4 : Hid (∀ W, Below wz.heap.size wz W → Calls Try.prog 30 #[.agg #[.int .i64 kd, .string nm, .slice A al.length c, .bool sf, .string tx]] W fun e w' => e = .returned (.string (textT ⟨kd, nm, al, sf, tx⟩)) ∧ Below W.heap.size W w') := fun W hW => rtext_any ⟨kd, nm, al, sf, tx⟩ A c W hf (by simp only; omega) (HR.out W hW)
  have H5 : Hid (∀ W, Below wz.heap.size wz W → Calls Try.prog 20 #[.agg #[.int .i64 kd, .string nm, .slice A al.length c, .bool sf, .string tx], .agg #[.int .i64 kd, .string ⟨#[112]⟩, .slice none 0 0, .bool false, .string ⟨#[]⟩]] W fun e w' => e = .returned (.bool (sameT ⟨kd, nm, al, sf, tx⟩ ⟨kd, ⟨#[112]⟩, [], false, ⟨#[]⟩⟩)) ∧ Below W.heap.size W w') := fun W hW => tsame_any ⟨kd, nm, al, sf, tx⟩ ⟨kd, ⟨#[112]⟩, [], false, ⟨#[]⟩⟩ A none c 0 W (HR.out W hW) (RdA.nil' W) (by simp only; omega)
  have H6 : Hid (∀ W, Below wz.heap.size wz W → Calls Try.prog 31 #[.agg #[.int .i64 kd, .string nm, .slice A al.length c, .bool sf, .string tx], .agg #[.int .i64 kd, .string ⟨#[112]⟩, .slice none 0 0, .bool false, .string ⟨#[]⟩]] W fun e w' => e = .returned (.bool (sameT ⟨kd, nm, al, sf, tx⟩ ⟨kd, ⟨#[112]⟩, [], false, ⟨#[]⟩⟩)) ∧ Below W.heap.size W w') := fun W hW => rtsame_any ⟨kd, nm, al, sf, tx⟩ ⟨kd, ⟨#[112]⟩, [], false, ⟨#[]⟩⟩ A none c 0 W (HR.out W hW) (RdA.nil' W) (by simp only; omega)
  have H7 : Hid (∀ W, Below wz.heap.size wz W → Calls Try.prog 20 #[.agg #[.int .i64 kd, .string nm, .slice A al.length c, .bool sf, .string tx], .agg #[.int .i64 kd, .string nm, .slice A al.length c, .bool sf, .string tx]] W fun e w' => e = .returned (.bool true) ∧ Below W.heap.size W w') := fun W hW => by
    have := tsame_any ⟨kd, nm, al, sf, tx⟩ ⟨kd, nm, al, sf, tx⟩ A A c c W (HR.out W hW) (HR.out W hW) (by simp only; omega)
    rw [sameT_self] at this
    exact this
  generalize rightB kd nm al sf tx = R at *
  generalize textT ⟨kd, nm, al, sf, tx⟩ = T at *
  generalize sameT ⟨kd, nm, al, sf, tx⟩ ⟨kd, ⟨#[112]⟩, [], false, ⟨#[]⟩⟩ = Q at *
  have eR : (R == R) = true := by simp
  have eT : (T.toList == T.toList) = true := by simp
  have eQ : (Q == Q) = true := by simp
  have HA0 := Lib.hid (fun W (hW : Below wz.heap.size wz W) => hA0.keep hW)
  have HA1 := Lib.hid (fun W (hW : Below wz.heap.size wz W) => hA1.keep hW)
  have HBz := Lib.hid hb0
  clear hb0 hA0 hA1 h hn hl hf hb hwz
  go_enter Try.func21, Try.ntmps21
  go_upto_region 1 with (fail)
  rw [← HWZ.out]
  have p0 := fun m : After wz => (HA0.out _ m.below).cell 0
  have p1 := fun m : After wz => (HA0.out _ m.below).cell 1
  have p2 := fun m : After wz => (HA0.out _ m.below).cell 2
  have p3 := fun m : After wz => (HA0.out _ m.below).cell 3
  have p4 := fun m : After wz => (HA0.out _ m.below).cell 4
  have q0 := fun m : After wz => (HA1.out _ m.below).cell 0
  have q1 := fun m : After wz => (HA1.out _ m.below).cell 1
  have q2 := fun m : After wz => (HA1.out _ m.below).cell 2
  have q3 := fun m : After wz => (HA1.out _ m.below).cell 3
  have q4 := fun m : After wz => (HA1.out _ m.below).cell 4
  refine wp_region_after (by kernel_rfl) (by kernel_rfl) ?_
  repeat (any_goals (go_big_quiet_step (first
    | (go_at_call 23; with_reducible exact call_after (H1.out _ (After.below _)))
    | (go_at_call 29; with_reducible exact call_after (H2.out _ (After.below _)))
    | (go_at_call 19; with_reducible exact call_after (H3.out _ (After.below _)))
    | (go_at_call 30; with_reducible exact call_after (H4.out _ (After.below _)))
    | (go_at_call 20; with_reducible exact call_after (H5.out _ (After.below _)))
    | (go_at_call 20; with_reducible exact call_after (H7.out _ (After.below _)))
    | (go_at_call 31; with_reducible exact call_after (H6.out _ (After.below _))))))
  refine wpQuiet_nil ?_
  rintro w' ⟨m, rfl⟩
  clear p0 p1 p2 p3 p4 q0 q1 q2 q3 q4
  go_wp2_with fail
  go_ret
  exact ⟨rfl, below_then HBz.out HBz.out.size m.below⟩
end Go.Proofs.Ytjghkiphfpeocaa
