/- Each token that the lexer tells is right: the plain law, and token.Right walked. -/
import Derived.Test.YtdjeajbinpgpiaaLexA0
import Derived.Test.YtdjeajbinpgpiaaRight
namespace Go.Proofs.Ytdjeajbinpgpiaa
open Go.RowKit

theorem name_gtK {l : List UInt8} {k : Nat} (h : (l[fromT l k]?).any letterB = true) : fromT l k + 1 ≤ nameL l (fromT l k) := by
  obtain ⟨c, hc, hp⟩ := any_at h
  obtain ⟨hlt, e⟩ := List.getElem?_eq_some_iff.1 hc
  unfold nameL untilL
  rw [← stopL_step _ l _ hlt (by rw [e]; show (!hasB endsN c) = true; rw [letter_end hp]; rfl)]
  exact stopL_ge _ _ _
theorem tag_nameK {a : List UInt8} {k : Nat} (ht : (readT a k).2.2 = true) : NameOk (readT a k).1.name := by
  obtain ⟨_, h2, al, sf, m, _, h4⟩ := tag_at ht
  have hg := name_gtK h2
  obtain ⟨c0, hc0, hp0⟩ := any_at h2
  have hlt := lt_of_at hc0
  have e : (readT a k).1.name = lowL (pieceL a (fromT a k) (nameL a (fromT a k))) := by rw [h4]; simp only; split <;> rfl
  rw [e]
  refine ⟨?_, fun c hc => ?_⟩
  · unfold lowL
    rw [List.getElem?_map]
    have : (pieceL a (fromT a k) (nameL a (fromT a k)))[0]? = some c0 := by
      unfold pieceL
      rw [List.getElem?_take, if_pos (by omega), List.getElem?_drop, Nat.add_zero, hc0]
    rw [this]
    exact letter_low hp0
  · obtain ⟨x, hx, rfl⟩ := List.mem_map.1 hc
    exact low_ok (piece_name a _ (by omega) x hx)
theorem tag_listedK {a : List UInt8} {k : Nat} (ht : (readT a k).2.2 = true) : Listed (readT a k).1.attrs ∧ (((readT a k).1.kind = 2) ∨ ((readT a k).1.kind = 3 ∧ (readT a k).1.attrs = [] ∧ (readT a k).1.self = false)) := by
  obtain ⟨_, h2, al, sf, m, h3, h4⟩ := tag_at ht
  obtain ⟨c0, hc0, hp0⟩ := any_at h2
  have hlt := lt_of_at hc0
  rw [h4]
  simp only
  split
  · exact ⟨listed_nil, .inr ⟨rfl, rfl, rfl⟩⟩
  · exact ⟨rest_listed a _ _ [] false al sf m (stopL_le _ _ _ (by omega)) listed_nil h3, .inl rfl⟩
theorem restF_lenK (l : List UInt8) : ∀ (f k : Nat) (al : List At) (sf : Bool) (al2 : List At) (sf2 : Bool) (n : Nat), restF f l k al sf = some (al2, sf2, n) → al2.length ≤ al.length + f
  | 0, k, al, sf, al2, sf2, n, h => by unfold restF at h; cases h
  | f + 1, k, al, sf, al2, sf2, n, h => by
    have hadd : ∀ (al : List At) (x : At), (addA al x).length ≤ al.length + 1 := fun al x => by unfold addA; split <;> simp
    unfold restF at h
    cases hc : l[skipL l k]? with
    | none => rw [hc] at h; cases h
    | some c =>
      rw [hc] at h
      simp only at h
      split at h
      · cases h; omega
      · split at h
        · split at h
          · cases h; omega
          · have := restF_lenK l f _ _ _ _ _ _ h; omega
        · have ha := hadd al (attrT l (skipL l k)).1
          split at h
          · cases h
          · split at h
            · cases h; omega
            · have := restF_lenK l f _ _ _ _ _ _ h; omega
theorem readT_lenK (l : List UInt8) (k : Int) : (readT l k).1.attrs.length ≤ l.length + 1 := by
  unfold readT
  split
  · exact Nat.zero_le _
  · split
    · unfold tagT
      split
      · split
        · exact Nat.zero_le _
        · rename_i h
          unfold restT at h
          have := restF_lenK l _ _ _ _ _ _ _ h
          simp only [List.length_nil] at this
          split
          · exact Nat.zero_le _
          · simp only; omega
      · exact Nat.zero_le _
    · exact Nat.zero_le _
theorem textX_some (x : List UInt8) (fo : Bool) (k : Nat) (hk : k < x.length) : (textX x fo k true).1 ≠ [] := by
  obtain ⟨c, hc⟩ : ∃ c, x[k]? = some c := ⟨_, List.getElem?_eq_getElem hk⟩
  rw [textX_step x fo k true (by omega), hc]
  simp only
  rw [if_neg (by simp)]
  split
  · have h := refS_facts false (x.drop k) (by rw [List.length_drop]; omega)
    intro e
    have := congrArg List.length e
    simp only [List.length_append, List.length_nil] at this
    omega
  · simp
/-- What a token must be to be right, where it is no end. -/
def RightTk (n : Nat) (t : Tk) : Prop :=
  (t.kd = 2 ∧ NameOk (B t.nm) ∧ Listed t.al ∧ t.al.length ≤ n + 1 ∧ t.nm.size ≤ n ∧ t.tx = ⟨#[]⟩) ∨
  (t.kd = 3 ∧ NameOk (B t.nm) ∧ t.al = [] ∧ t.sf = false ∧ t.nm.size ≤ n ∧ t.tx = ⟨#[]⟩) ∨
  (t.kd = 4 ∧ t.nm = ⟨#[]⟩ ∧ t.al = [] ∧ t.sf = false ∧ B t.tx ≠ []) ∨
  (t.kd = 5 ∧ t.nm = ⟨#[]⟩ ∧ t.al = [] ∧ t.sf = false) ∨
  (t.kd = 1 ∧ lowL (B t.nm) = B t.nm ∧ t.nm.size ≤ n ∧ t.al = [] ∧ t.sf = false ∧ t.tx = ⟨#[]⟩)
theorem lowB_lowK (c : UInt8) : lowB (lowB c) = lowB c := by
  apply UInt8.toNat_inj.1
  rw [lowB_toNat (lowB c), lowB_toNat c]
  repeat' split
  all_goals omega
theorem lowL_lowL (l : List UInt8) : lowL (lowL l) = lowL l := by
  unfold lowL
  rw [List.map_map]
  exact List.map_congr_left fun c _ => lowB_lowK c
theorem tm_right (x : List UInt8) (k : Nat) (h0 : (readM x k false).1.kind ≠ 0) :
    ((readM x k false).1.kind = 5 ∧ (readM x k false).1.name = []) ∨ ((readM x k false).1.kind = 1 ∧ lowL (readM x k false).1.name = (readM x k false).1.name ∧ (readM x k false).1.text = []) := by
  have hc : ∀ a, (commentM x a).1.kind = 5 ∧ (commentM x a).1.name = [] := fun a => by
    unfold commentM
    split <;> (try split) <;> (try split) <;> (try split) <;> exact ⟨rfl, rfl⟩
  unfold readM at h0 ⊢
  split
  · rename_i h; rw [if_pos h] at h0; exact absurd rfl h0
  rename_i n0
  rw [if_neg n0] at h0
  split
  · exact .inl (hc _)
  rename_i n1
  rw [if_neg n1] at h0
  split
  · exact .inr ⟨rfl, by unfold doctypeM; simp only; rw [lowL_lowL], rfl⟩
  rename_i n2
  rw [if_neg n2] at h0
  rw [if_neg (by simp)] at h0 ⊢
  split
  · exact .inl ⟨rfl, rfl⟩
  rename_i n4
  rw [if_neg n4] at h0
  split
  · exact .inl ⟨rfl, rfl⟩
  rename_i n5
  rw [if_neg n5] at h0
  split
  · rename_i h; rw [if_pos h] at h0; exact absurd rfl h0
  rename_i n6
  rw [if_neg n6] at h0
  split
  · exact .inl ⟨rfl, rfl⟩
  rename_i n7
  rw [if_neg n7] at h0
  exact absurd rfl h0
theorem dataX_right (x : List UInt8) : ∀ (d k : Nat), x.length - k = d → k ≤ x.length → (dataX x false k).1 = eofT ∨ RightTk x.length (dataX x false k).1 := fun d => by
  induction d using Nat.strongRecOn with
  | _ d ih =>
    intro k hd hk
    rw [dataX_step x false k hk]
    split
    · exact .inl rfl
    rename_i h0
    split
    · rename_i h1
      obtain ⟨hl, hk2⟩ := tag_listedK h1
      have hn := tag_nameK h1
      have hz := (tg_parts x k h1).2
      have hlen := readT_lenK x k
      refine .inr ?_
      rcases hk2 with e | ⟨e1, e2, e3⟩
      · exact .inl ⟨e, by show NameOk (B (S _)); rw [B_S]; exact hn, hl, hlen, by show (S _).size ≤ _; rw [size_S]; exact hz, rfl⟩
      · exact .inr (.inl ⟨e1, by show NameOk (B (S _)); rw [B_S]; exact hn, e2, e3, by show (S _).size ≤ _; rw [size_S]; exact hz, rfl⟩)
    split
    · exact .inl rfl
    split
    · exact .inr (.inr (.inr (.inl ⟨rfl, rfl, rfl, rfl, by show B (S _) ≠ []; rw [B_S]; exact textX_some x false k (by omega)⟩)))
    rename_i h1 _ h4
    obtain ⟨n, hn, h5, h6⟩ := readM_some (x := x) (k := k) (fo := false) (by omega) (by simpa using h4)
    split
    · rename_i hk0
      have hnm := tm_name x k false
      rcases tm_right x k hk0 with ⟨e1, e2⟩ | ⟨e1, e2, e3⟩
      · exact .inr (.inr (.inr (.inr (.inl ⟨e1, by show S _ = _; rw [e2]; rfl, rfl, rfl⟩))))
      · exact .inr (.inr (.inr (.inr (.inr ⟨e1, by show lowL (B (S _)) = B (S _); rw [B_S]; exact e2, by show (S _).size ≤ _; rw [size_S]; exact hnm, rfl, rfl, by show S _ = _; rw [e3]; rfl⟩))))
    · rw [hn, Int.toNat_natCast]
      exact ih (x.length - n) (by omega) n rfl h6
/-- A lexer in its first mode: it stays so, and its tokens are right. -/
theorem next_right (x : List UInt8) (s : Lx) (hs : s.at_ ≤ x.length) (hm : s.mode = 1) (hf : s.fo = false) :
    (nextL x s).2.mode = 1 ∧ (nextL x s).2.fo = false ∧ ((nextL x s).1 = eofT ∨ RightTk x.length (nextL x s).1) := by
  unfold nextL
  split
  · exact ⟨hm, hf, .inl rfl⟩
  rw [if_neg (by rw [hm]; decide), if_neg (by rw [hm]; decide), hf]
  exact ⟨hm, hf, dataX_right x _ s.at_ rfl hs⟩

/-! ### token.Right -/
set_option maxHeartbeats 1000000 in
theorem plain_textG (kd : Int) (A : Option Addr) (c : Nat) (tx : ByteArray) (w : World) :
    Calls Try.prog 22 #[.agg #[.int .i64 kd, .string ⟨#[]⟩, .slice A 0 c, .bool false, .string tx], .bool false, .bool false, .bool true] w fun e w' => e = .returned (.bool true) ∧ Below w.heap.size w w' := by
  have HB := Lib.hid (below_tokR w #[.int .i64 kd, .string ⟨#[]⟩, .slice A 0 c, .bool false, .string tx])
  go_enter Try.func22, Try.ntmps22
  go_wp2_with fail
  go_ret
  exact ⟨rfl, HB.out⟩
set_option maxHeartbeats 1000000 in
theorem plain_nameG (kd : Int) (A : Option Addr) (c : Nat) (nm : ByteArray) (w : World) :
    Calls Try.prog 22 #[.agg #[.int .i64 kd, .string nm, .slice A 0 c, .bool false, .string ⟨#[]⟩], .bool true, .bool false, .bool false] w fun e w' => e = .returned (.bool true) ∧ Below w.heap.size w w' := by
  have HB := Lib.hid (below_tokR w #[.int .i64 kd, .string nm, .slice A 0 c, .bool false, .string ⟨#[]⟩])
  go_enter Try.func22, Try.ntmps22
  go_wp2_with fail
  go_ret
  exact ⟨rfl, HB.out⟩
set_option maxHeartbeats 1000000 in
theorem right_commentG (A : Option Addr) (c : Nat) (tx : ByteArray) (w : World) :
    Calls Try.prog 15 #[.agg #[.int .i64 5, .string ⟨#[]⟩, .slice A 0 c, .bool false, .string tx]] w fun e w' => e = .returned (.bool true) ∧ Below w.heap.size w w' := by
  have HB := Lib.hid (below_tokR w #[.int .i64 5, .string ⟨#[]⟩, .slice A 0 c, .bool false, .string tx])
  have HP := Lib.hid (fun w => plain_textG 5 A c tx w)
  go_enter Try.func15, Try.ntmps15
  go_wp2_with fail
  refine (HP.out _).mono ?_
  rintro e w1 ⟨rfl, b1⟩
  have HB1 := Lib.hid (below_then HB.out HB.out.size b1)
  clear b1
  go_wp2_with fail
  go_ret
  exact ⟨rfl, HB1.out⟩
set_option maxHeartbeats 1000000 in
theorem right_textG (A : Option Addr) (c : Nat) (tx : ByteArray) (htx : B tx ≠ []) (w : World) :
    Calls Try.prog 15 #[.agg #[.int .i64 4, .string ⟨#[]⟩, .slice A 0 c, .bool false, .string tx]] w fun e w' => e = .returned (.bool true) ∧ Below w.heap.size w w' := by
  have HB := Lib.hid (below_tokR w #[.int .i64 4, .string ⟨#[]⟩, .slice A 0 c, .bool false, .string tx])
  have HA := Lib.hid (Blk.new w 27 #[.int .i64 4, .string ⟨#[]⟩, .slice A 0 c, .bool false, .string tx] (0, 0))
  have HP := Lib.hid (fun w => plain_textG 4 A c tx w)
  have t1 : (tx.toList == []) = false := by rw [toList_B, beq_eq_false_iff_ne]; exact htx
  have t2 : (tx.toList != []) = true := by rw [bne, t1]; rfl
  go_enter Try.func15, Try.ntmps15
  go_wp2_with fail
  refine (HP.out _).mono ?_
  rintro e w1 ⟨rfl, b1⟩
  obtain ⟨p0, p1, p2, p3, p4, _⟩ := cells_tokG (HA.out.keep b1)
  have HB1 := Lib.hid (below_then HB.out HB.out.size b1)
  clear b1
  go_wp2_with fail
  go_ret
  exact ⟨rfl, HB1.out⟩
set_option maxHeartbeats 2000000 in
theorem right_doctypeG (A : Option Addr) (c : Nat) (nm : ByteArray) (hn : lowL (B nm) = B nm) (hs : nm.size ≤ 140737488355328) (w : World) :
    Calls Try.prog 15 #[.agg #[.int .i64 1, .string nm, .slice A 0 c, .bool false, .string ⟨#[]⟩]] w fun e w' => e = .returned (.bool true) ∧ Below w.heap.size w w' := by
  have hB := below_tokR w #[.int .i64 1, .string nm, .slice A 0 c, .bool false, .string ⟨#[]⟩]
  have hA := Blk.new w 27 #[.int .i64 1, .string nm, .slice A 0 c, .bool false, .string ⟨#[]⟩] (0, 0)
  have HP := Lib.hid (fun w => plain_nameG 1 A c nm w)
  have HL : Hid (∀ w, Calls Try.prog 23 #[.string nm] w fun e w' => e = .returned (.string nm) ∧ Below w.heap.size w w') := fun w =>
    (lower_any nm w hs).mono fun _ _ ⟨h, h'⟩ => ⟨h.trans (by rw [hn, S_B]), h'⟩
  have t1 : (nm.toList == nm.toList) = true := by simp
  clear hn hs
  go_enter Try.func15, Try.ntmps15
  go_wp2_with fail
  obtain ⟨wr, hwr⟩ : ∃ wr, wr = w.alloc (.cells #[.int .i64 1, .string nm, .slice A 0 c, .bool false, .string ⟨#[]⟩] 27) := ⟨_, rfl⟩
  rw [← hwr] at hA hB
  rw [show w.alloc (.cells #[.int .i64 1, .string nm, .slice A 0 c, .bool false, .string ⟨#[]⟩] 27) = wr from hwr.symm]
  clear hwr
  have HB := Lib.hid hB
  have hks : ∀ W, Below wr.heap.size wr W → (W.cell? ⟨w.heap.size, 0, none⟩ = some (.int .i64 1) ∧ W.cell? ⟨w.heap.size, 1, none⟩ = some (.string nm) ∧ W.cell? ⟨w.heap.size, 2, none⟩ = some (.slice A 0 c) ∧ W.cell? ⟨w.heap.size, 3, none⟩ = some (.bool false) ∧ W.cell? ⟨w.heap.size, 4, none⟩ = some (.string ⟨#[]⟩)) := fun W hW => by
    obtain ⟨p0, p1, p2, p3, p4, _⟩ := cells_tokG (hA.keep hW)
    exact ⟨p0, p1, p2, p3, p4⟩
  have KS := Lib.hid hks
  have HW := Lib.hid (made_drew wr)
  clear hA hB hks
  go_region_held3 (fun W => W.cell? ⟨w.heap.size, 0, none⟩ = some (.int .i64 1) ∧ W.cell? ⟨w.heap.size, 1, none⟩ = some (.string nm) ∧ W.cell? ⟨w.heap.size, 2, none⟩ = some (.slice A 0 c) ∧ W.cell? ⟨w.heap.size, 3, none⟩ = some (.bool false) ∧ W.cell? ⟨w.heap.size, 4, none⟩ = some (.string ⟨#[]⟩))
    (exact KS.out _ HW.out)
    (first
      | (go_at_call 22
         refine (HP.out _).mono ?_
         rintro e w2 ⟨rfl, b2⟩
         have HW := Lib.hid (below_then HW.out HW.out.size b2)
         clear b2)
      | (go_at_call 23
         refine (HL.out _).mono ?_
         rintro e w2 ⟨rfl, b2⟩
         have HW := Lib.hid (below_then HW.out HW.out.size b2)
         clear b2))
  all_goals
    go_wp2_with fail
    go_ret
    exact ⟨rfl, below_then HB.out HB.out.size HW.out⟩
/-- A token of the lexer is right. -/
theorem right_tk (t : Tk) (A : Option Addr) (c : Nat) (n : Nat) (hn : n ≤ 65536) (w : World) (h : RightTk n t) (hr : RdA w A t.al.length t.al) :
    Calls Try.prog 15 #[tkG t A c] w fun e w' => e = .returned (.bool true) ∧ Below w.heap.size w w' := by
  obtain ⟨kd, nm, al, sf, tx⟩ := t
  unfold tkG
  simp only at hr ⊢
  rcases h with ⟨h1, h2, h3, h4, h5, h6⟩ | ⟨h1, h2, h3, h4, h5, h6⟩ | ⟨h1, h2, h3, h4, h5⟩ | ⟨h1, h2, h3, h4⟩ | ⟨h1, h2, h3, h4, h5, h6⟩
  · simp only at h1 h2 h3 h4 h5 h6
    subst h1 h6
    exact right_two w nm A al.length c al sf (by omega) h2 hr (by omega) h3
  · simp only at h1 h2 h3 h4 h5 h6
    subst h1 h3 h4 h6
    exact right_three w nm A c (by omega) h2
  · simp only at h1 h2 h3 h4 h5
    subst h1 h2 h3 h4
    exact right_textG A c tx h5 w
  · simp only at h1 h2 h3 h4
    subst h1 h2 h3 h4
    exact right_commentG A c tx w
  · simp only at h1 h2 h3 h4 h5 h6
    subst h1 h4 h5 h6
    exact right_doctypeG A c nm h2 (by omega) w
end Go.Proofs.Ytdjeajbinpgpiaa
