/- arbourlaw13.all: the program's tokens and the reference's are the same. -/
import Derived.Test.YtdjeajbinpgpiaaGreatJLexerTellsLexRfA
import Derived.Test.YtdjeajbinpgpiaaGreatJLexerTellsTokens
namespace Go.Proofs.YtdjeajbinpgpiaaGreat
open Go.RowKit

theorem restF_lenG (l : List UInt8) : ∀ (f k : Nat) (al : List At) (sf : Bool) (al2 : List At) (sf2 : Bool) (n : Nat), restF f l k al sf = some (al2, sf2, n) → al2.length ≤ al.length + f
  | 0, k, al, sf, al2, sf2, n, h => by unfold restF at h; cases h
  | f + 1, k, al, sf, al2, sf2, n, h => by
    have hadd : ∀ (al : List At) (x : At), (addA al x).length ≤ al.length + 1 := fun al x => by unfold addA; split <;> simp
    unfold restF at h
    cases hc : l[skipL l k]? with
    | none => rw [hc] at h; cases h
    | some c =>
      rw [hc] at h
      simp only at h
      split at h
      · cases h; omega
      · split at h
        · split at h
          · cases h; omega
          · have := restF_lenG l f _ _ _ _ _ _ h; omega
        · have ha := hadd al (attrT l (skipL l k)).1
          split at h
          · cases h
          · split at h
            · cases h; omega
            · have := restF_lenG l f _ _ _ _ _ _ h; omega
theorem readT_lenG (l : List UInt8) (k : Int) : (readT l k).1.attrs.length ≤ l.length + 1 := by
  unfold readT
  split
  · exact Nat.zero_le _
  · split
    · unfold tagT
      split
      · split
        · exact Nat.zero_le _
        · rename_i h
          unfold restT at h
          have := restF_lenG l _ _ _ _ _ _ _ h
          simp only [List.length_nil] at this
          split
          · exact Nat.zero_le _
          · simp only; omega
      · exact Nat.zero_le _
    · exact Nat.zero_le _
theorem dataX_few (x : List UInt8) (fo : Bool) : ∀ (d k : Nat), x.length - k = d → k ≤ x.length → (dataX x fo k).1.al.length ≤ x.length + 1 := fun d => by
  induction d using Nat.strongRecOn with
  | _ d ih =>
    intro k hd hk
    rw [dataX_step x fo k hk]
    split
    · exact Nat.zero_le _
    split
    · exact readT_lenG x k
    split
    · exact Nat.zero_le _
    split
    · exact Nat.zero_le _
    split
    · exact Nat.zero_le _
    rename_i h1 _ _ h4 _
    obtain ⟨n, hn, h5, h6⟩ := readM_some (x := x) (k := k) (fo := fo) (by omega) (by simpa using h4)
    rw [hn, Int.toNat_natCast]
    exact ih (x.length - n) (by omega) n rfl h6
theorem nextL_few (x : List UInt8) (s : Lx) (hs : s.at_ ≤ x.length) : (nextL x s).1.al.length ≤ x.length + 1 := by
  unfold nextL
  split
  · exact Nat.zero_le _
  split
  · split
    · exact dataX_few x s.fo _ s.at_ rfl hs
    · exact Nat.zero_le _
  split
  · exact Nat.zero_le _
  · exact dataX_few x s.fo _ s.at_ rfl hs
theorem toksL_few (x : List UInt8) : ∀ (d : Nat) (s : Lx), x.length - s.at_ = d → s.at_ ≤ x.length → ∀ t ∈ toksL x s, t.al.length ≤ x.length + 1 := fun d => by
  induction d using Nat.strongRecOn with
  | _ d ih =>
    intro s hd hs t ht
    rw [toksL_step x s hs] at ht
    have he := goL_at x s
    have hf := nextL_few x s hs
    split at ht
    · rw [List.mem_singleton] at ht; rw [ht]; exact hf
    · rename_i hn6
      rcases nextL_goes x s hs with ⟨h1, _, _⟩ | ⟨h1, h2, h3, _⟩
      · exact absurd (by rw [h1]; rfl) hn6
      · rw [List.mem_cons] at ht
        rcases ht with rfl | ht
        · exact hf
        · exact ih (x.length - (goL x s).at_) (by omega) (goL x s) rfl (by omega) t ht
set_option maxHeartbeats 4000000 in
theorem lex_same (x : ByteArray) (w : World) (hx : x.size ≤ 65534) (hL : Lax w) :
    Calls Tryz.prog 6 #[.string x] w fun e w' => e = .returned (.bool true) ∧ Below w.heap.size w w' := by
  have HP := Lib.hid (lall_any x w (by omega) hL)
  have HF := Lib.hid (toksL_few (B x) _ startL rfl (Nat.zero_le _))
  rw [← tokensL_toks, ← size_B] at HF
  have hlen := toksL_len (B x) _ startL rfl (Nat.zero_le _)
  rw [← tokensL_toks, ← size_B] at hlen
  have HLE := Lib.hid hlen
  clear hlen hL
  go_enter Tryz.func6, Tryz.ntmps6
  go_wp2_with fail
  refine HP.out.mono ?_
  rintro e w1 ⟨v1, o1, rfl, r1, m1, b1⟩
  have HR1 := Lib.hid r1
  have HM1 := Lib.hid m1
  have HB1 := Lib.hid b1
  clear r1 m1 b1
  go_wp2_with fail
  refine (rflall_any x w1 hx).mono ?_
  rintro e w2 ⟨v2, o2, rfl, r2, m2, b2⟩
  obtain ⟨A1, c1, rfl, _, rd1⟩ := (HR1.out.keep b2).read
  obtain ⟨A2, c2, rfl, _, rd2⟩ := r2.read
  have hlen : o1.length = o2.length := by
    have := congrArg List.length (HM1.out.trans m2.symm)
    simpa using this
  have hcnt : o1.length ≤ 65535 := by
    have h1 := congrArg List.length HM1.out
    rw [List.length_map] at h1
    have := HLE.out
    omega
  rw [← hlen] at rd2
  have HB2 := Lib.hid (below_then HB1.out HB1.out.size b2)
  have HK := Lib.hid (gtokens_keep w2 A1 A2 o1.length c1 c2 o1 o2 rd1 rd2 (HM1.out.trans m2.symm) (by omega) (fun m hm => by
    have h1 : m.t ∈ tokensL (B x) := by rw [← HM1.out]; exact List.mem_map_of_mem hm
    have := HF.out _ h1
    omega))
  rw [← hlen]
  clear rd1 rd2 hlen hcnt b2 r2 m2
  go_wp2_with fail
  refine HK.out.mono ?_
  rintro e w3 ⟨rfl, b3⟩
  have HB3 := Lib.hid (below_then HB2.out HB2.out.size b3)
  clear b3
  go_wp2_with fail
  go_ret
  exact ⟨rfl, HB3.out⟩
end Go.Proofs.YtdjeajbinpgpiaaGreat
