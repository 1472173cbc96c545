/- utf.Decode: bytes, rune by rune. -/
import Derived.Test.YtpdbbpmkdkjppaaDoorUtfP
namespace Go.Proofs.YtpdbbpmkdkjppaaDoor
open Go.RowKit

def lenV : Value → Nat
  | .slice _ n _ => n
  | _ => 0
theorem rd_one_r (w1 : World) (x : Int) : Rd (w1.alloc (.cells #[.int .i32 x] 21)) (some ⟨w1.heap.size, 0, none⟩) 1 1 [.int .i32 x] := by
  refine ⟨rfl, fun u hu => ?_, fun _ => ⟨_, rfl, fun j u hu => ?_⟩⟩
  · simp only [List.mem_cons, List.mem_nil_iff, or_false] at hu
    subst hu; rfl
  · have hb := Blk.new w1 21 #[.int .i32 x] (0, 0)
    rw [add0, hb.cell j]
    simpa using hu
theorem ownR_alloc {w w1 : World} {v : Value} {l : List Int} (h : OwnR w1 w.heap.size v l) (o : Obj) : OwnR (w1.alloc o) w.heap.size v l := h.keep ((Below.refl _ _).alloc (Nat.le_refl _) o)
theorem ownR_app {w : World} {base : Nat} {v : Value} {l : List Int} {x : Int} (h : w.ownsRow base 21 1 v (l.length + 1) (l.flatMap enc_r ++ [.int .i32 x])) : OwnR w base v (l ++ [x]) := by
  unfold OwnR
  rw [List.length_append, List.flatMap_append]
  exact h

set_option maxHeartbeats 2000000 in
set_option maxRecDepth 100000 in
theorem decode_any (w : World) (A : Option Addr) (c : Nat) (l : List UInt8) (h : RdB w A c l) (hsz : l.length ≤ 1000000) (hT : Tabs w) :
    Calls Tryd.prog 15 #[.slice A l.length c] w fun e w' => ∃ v, e = .returned v ∧ OwnR w' w.heap.size v (decU l) ∧ Below w.heap.size w w' := by
  obtain ⟨i0, hi0, hz0, hz1, hz2⟩ := info_parts info_rune
  have H := Lib.hid h
  have HT := Lib.hid hT
  clear h hT
  go_enter Tryd.func15, Tryd.ntmps15
  go_wp2_with fail
  go_loopw [0, 3] (fun bv ov wr => ∃ (A' : Option Addr) (c' : Nat) (l' : List UInt8) (done : List Int), bv = .slice A' l'.length c' ∧ RdB w A' c' l' ∧ OwnR wr w.heap.size ov done ∧ decU l = done ++ decU l' ∧ done.length + l'.length ≤ l.length ∧ Below w.heap.size w wr) (fun bv _ _ => lenV bv)
  case atStart => exact ⟨A, c, l, [], rfl, H.out, World.ownsRow_nil _ _ _ _, rfl, by simp, Below.refl _ _⟩
  case round =>
    rename_i bv ov
    obtain ⟨A', c', l', done, rfl, hr, ho, hd, hlen, hb⟩ := hrel
    have HR := Lib.hid hr
    have HO := Lib.hid ho
    have HD := Lib.hid hd
    have HB := Lib.hid hb
    clear hr ho hd hb
    by_cases h0 : 0 < l'.length
    · have hne : l' ≠ [] := fun e => by subst e; simp at h0
      have d0 : decide (0 < l'.length) = true := decide_eq_true h0
      have hstep := decU_step hne
      obtain ⟨q1, q2⟩ := one_len hne
      have HS := Lib.hid hstep
      have HC := Lib.hid (one_any wr A' c' l' (HR.out.keep HB.out) h0 (HT.out.keep HB.out))
      obtain ⟨b, o, eA, _⟩ := HR.out.cell h0
      have hcc := HR.out.2.1
      have hcm : c' ≤ 9223372036854775807 := HR.out.2.2
      subst eA
      have HDR := Lib.hid (fun A2 hA => HR.out.drop (oneU l').2 q2 A2 hA)
      have HL := Lib.hid (List.length_drop (i := (oneU l').2) (l := l'))
      clear hstep
      generalize hn : l'.length = n at *
      generalize (oneU l').2 = k at *
      generalize (oneU l').1 = r at *
      go_wp2_with (first
        | (go_at_call 25
           with_reducible refine HC.out.mono ?_
           rintro e w1 ⟨rfl, hb1⟩
           have hb2 : Below w.heap.size w (w1.alloc (.cells #[.int .i32 (r : Int)] 21)) := (below_then HB.out HB.out.size hb1).alloc (by have := HB.out.size; have := hb1.size; omega) _
           have HB2 := Lib.hid hb2
           have HO2 := Lib.hid (ownR_alloc (HO.out.keep hb1) (.cells #[.int .i32 (r : Int)] 21))
           have HRD := Lib.hid (rd_one_r w1 (r : Int))
           clear hb1 hb2)
        | (at_builtin
           refine append_made w _ rfl (.tmp 14) (.tmp 16) _ rfl 21 i0 _ 1 4 Tryd.underlying26 hi0 hz0 hz1 hz2 rfl (by omega) _ _ _ rfl HO2.out (some ⟨w1.heap.size, 0, none⟩) 1 1 _ rfl HRD.out (by simp only [maxLen]; omega) (by omega) HB2.out ?_
           intro v2 w2 hown2 hb3 hg2
           have HO3 := Lib.hid (ownR_app hown2)
           have HB3 := Lib.hid hb3
           clear hown2 hb3 hg2))
      refine ⟨⟨if c' = k then some ⟨b, o, none⟩ else some ⟨b, o + k, none⟩, c' - k, l'.drop k, done ++ [(r : Int)], ?_, HDR.out _ ?_, HO3.out, ?_, ?_, HB3.out⟩, ?_⟩
      · rw [HL.out]
      · intro hk
        rw [if_neg (by omega)]
      · rw [HD.out, HS.out, List.append_assoc]
        rfl
      · rw [HL.out, List.length_append]
        simp only [List.length_cons, List.length_nil]
        omega
      · show n - k < n
        omega
    · obtain rfl : l' = [] := List.eq_nil_of_length_eq_zero (by omega)
      go_wp2_with fail
      go_ret
      refine ⟨_, rfl, ?_, HB.out⟩
      have hd := HD.out
      rw [decU_nil, List.append_nil] at hd
      rw [hd]
      exact HO.out
end Go.Proofs.YtpdbbpmkdkjppaaDoor
