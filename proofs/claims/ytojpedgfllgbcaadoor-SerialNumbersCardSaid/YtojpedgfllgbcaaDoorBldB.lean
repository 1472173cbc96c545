/- strings.Builder beside other memory: WriteString touches the builder's own blocks alone. -/
import Derived.Test.YtojpedgfllgbcaaDoorBuilder
namespace Go.Proofs.YtojpedgfllgbcaaDoor
open Go.RowKit

/-- A builder, its slice by name. -/
structure BdV (w : World) (b : Nat) (v : Value) (l : List UInt8) : Prop where
  cell : w.heap[b]? = some (.cells #[.pointer none, v] 88 (0, 0)) ∨ w.heap[b]? = some (.cells #[.pointer (some ⟨b, 0, none⟩), v] 88 (0, 0))
  row : w.ownsRow 0 5 1 v l.length (Lib.byteCells l)
  apart : v.ownBlock ≠ some b
theorem BdV.lt {w : World} {b : Nat} {v : Value} {l : List UInt8} (h : BdV w b v l) {k : Nat} (hk : foot b v k) : k < w.heap.size := by
  rcases hk with rfl | hk
  · rcases h.cell with h | h <;> exact (Array.getElem?_eq_some_iff.1 h).1
  · exact owns_lt h.row hk
theorem BdV.but {S : Nat → Prop} {w w1 : World} {b : Nat} {v : Value} {l : List UInt8} (h : BdV w b v l) (hb : But S w w1) (hn : ∀ k, foot b v k → ¬ S k) : BdV w1 b v l :=
  ⟨h.cell.imp (fun hc => hb.heap hc (hn b (.inl rfl))) (fun hc => hb.heap hc (hn b (.inl rfl))), owns_but h.row hb (fun g hg => hn g (.inr hg)), h.apart⟩
theorem BdV.keep {w w1 : World} {b : Nat} {v : Value} {l : List UInt8} (h : BdV w b v l) (hb : Below w.heap.size w w1) : BdV w1 b v l := h.but (S := fun _ => False) (But.of_below hb) (fun _ _ h => h)
theorem BdV.new (w : World) : BdV (w.alloc (.cells #[.pointer none, .slice none 0 0] 88)) w.heap.size (.slice none 0 0) [] :=
  ⟨.inl (heap_alloc_new w _), World.ownsRow_nil _ _ _ _, fun h => by cases h⟩
theorem BdV.bld {w : World} {b : Nat} {v : Value} {l : List UInt8} (h : BdV w b v l) {B0 : Nat} (hf : ∀ k, foot b v k → B0 ≤ k) : Bld w B0 b l := by
  have hr : w.ownsRow B0 5 1 v (Lib.byteCells l).length (Lib.byteCells l) := by rw [Lib.byteCells_length]; exact owns_base h.row (fun g hg => hf g (.inr hg))
  exact h.cell.imp (fun hc => ⟨hf b (.inl rfl), v, hc, hr, h.apart⟩) (fun hc => ⟨hf b (.inl rfl), v, hc, hr, h.apart⟩)

theorem check_but (b : Nat) (v : Value) (l : List UInt8) (w : World) (h : BdV w b v l) :
    Calls Tryd.prog 85 #[.pointer (some ⟨b, 0, none⟩)] w fun e w' => e = .returned (.tuple #[]) ∧ w'.heap[b]? = some (.cells #[.pointer (some ⟨b, 0, none⟩), v] 88 (0, 0)) ∧ But (fun k => k = b) w w' := by
  rcases h.cell with hc | hc
  · refine (check_fresh b w (by rw [Lib.cell_of_heap hc]; rfl) (by simp [World.shape?, hc]) (Lib.frozen_of_heap hc 0)).mono fun e w' ⟨he, hw⟩ => ⟨he, ?_⟩
    subst hw
    refine ⟨?_, (But.refl _ _).setCell _ _ (.inl rfl)⟩
    have := Blk.set (w := w) (g := b) (t := 88) hc 0 (.pointer (some ⟨b, 0, none⟩))
    simpa [Blk] using this
  · refine (check_used b w (by rw [Lib.cell_of_heap hc]; rfl)).mono fun e w' ⟨he, hw⟩ => ⟨he, ?_⟩
    subst hw
    exact ⟨hc, But.refl _ _⟩

/-- append of a text to a row of bytes of one's own: the row stays where it is, or is new. -/
theorem run_append_string_at {P : Program} (w : World) (t u ty e : TypeId) (i : TypeInfo) (ht : P.underlying t = some (.slice e)) (hu : P.underlying u = some .string) (hi : P.info? e = some i) (hz : i.zero = some (.int .u8 0))
    (hsize : i.size = 1) (hby : i.bytes = 1) (v : Value) (n : Nat) (xs : List Value) (hown : w.ownsRow 0 e 1 v n xs) (s : ByteArray) (h63 : n + s.size ≤ maxLen) (hbytes : n + s.size ≤ 140737488355328) :
    ∃ v' w', (Builtin.append_ #[t, u] ty #[v, .string s]).run P w = .ok v' w' ∧ w'.ownsRow 0 e 1 v' (n + s.size) (xs ++ Lib.strCells s) ∧ w.grownBy w' v.ownBlock ∧ Grown w v v' := by
  obtain ⟨v', w', hr, h2, h3, h4⟩ := Lib.run_append_own_string (P := P) w 0 t u ty e i ht hu hi hz hsize hby v n xs hown s h63 hbytes (Nat.zero_le _)
  have h63' : n + s.size ≤ 9223372036854775807 := by simpa [maxLen] using h63
  have hxl : xs.length = n := by simpa using hown.1
  refine ⟨v', w', hr, h2, h3, ?_⟩
  rcases hown.2 with ⟨rfl, rfl⟩ | ⟨g, cap, cur, rfl, hbg, hg, hnc, hcm, hcs, htake⟩
  · have hx : xs = [] := List.eq_nil_of_length_eq_zero hxl
    subst hx
    obtain ⟨v2, w2, hr2, k2, _, _⟩ := Lib.run_append_own_string (P := P) w w.heap.size t u ty e i ht hu hi hz hsize hby (.slice none 0 0) 0 [] (World.ownsRow_nil w _ _ _) s h63 hbytes (Nat.le_refl _)
    rw [hr] at hr2
    obtain ⟨rfl, rfl⟩ : v' = v2 ∧ w' = w2 := by simpa using hr2
    cases hb : v'.ownBlock with
    | none => exact .inl (by rw [hb]; rfl)
    | some k => exact .inr ⟨k, (k2.lt k hb).1, hb⟩
  · by_cases hroom : n + s.size ≤ cap
    · have hcs' : cur.size = cap := by simpa using hcs
      have hr2 := Lib.run_append_room_string (P := P) w t u ty e i ht hu hi hsize g n cap cur hg s hroom (by omega)
      rw [hr] at hr2
      have hv : v' = .slice (some ⟨g, 0, none⟩) (n + s.size) cap := by
        have := hr2
        simp at this
        exact this.1
      exact .inl (by rw [hv]; rfl)
    · have holds : ∀ j u, xs[j]? = some u → w.cell? ((⟨g, 0, none⟩ : Addr).add j) = some u := hown.cells (g := g) rfl
      have hr2 := Lib.run_append_grow_string (P := P) w t u ty e i (.int .u8 0) ht hu hi hz ⟨g, 0, none⟩ n cap xs (by rw [hsize]; simpa using hxl) holds s (by omega) (by omega) (by rw [hby]; exact growslice_fits (by omega) (by omega))
      rw [hr] at hr2
      have hv : v' = .slice (some ⟨w.heap.size, 0, none⟩) (n + s.size) (grownCap w (n + s.size) cap e) := by
        have := hr2
        simp at this
        exact this.1
      exact .inr ⟨w.heap.size, Nat.le_refl _, by rw [hv]; rfl⟩
theorem wpList_append_string_at {P : Program} (w : World) {ops : Array Oper} {rest : List Oper} {o : Oper} {a : Act} {Q : Exit → Act → World → Prop} (hgd : o.guard = none) (sl x : Operand) (t u : TypeId)
    (ho : o.op = .call { callee := .builtin .append, args := #[sl, x], argTypes := #[t, u] })
    (e : TypeId) (i : TypeInfo) (ht : P.underlying t = some (.slice e)) (hu : P.underlying u = some .string) (hi : P.info? e = some i) (hz : i.zero = some (.int .u8 0)) (hsize : i.size = 1) (hby : i.bytes = 1)
    (v : Value) (n : Nat) (xs : List Value) (hs : a.eval sl = v) (hown : w.ownsRow 0 e 1 v n xs) (s : ByteArray) (hx : a.eval x = .string s) (h63 : n + s.size ≤ maxLen) (hbytes : n + s.size ≤ 140737488355328)
    (h : ∀ v' w', w'.ownsRow 0 e 1 v' (n + s.size) (xs ++ Lib.strCells s) → w.grownBy w' v.ownBlock → Grown w v v' → wpList P ops Q rest (a.put o.dst v') w') : wpList P ops Q (o :: rest) a w := by
  refine wpList_plain hgd fun K hK => ?_
  obtain ⟨v', w', hr, h2, h3, h4⟩ := run_append_string_at (P := P) w t u o.type e i ht hu hi hz hsize hby v n xs hown s h63 hbytes
  unfold Oper.wp execOp
  simp only [ho, resolve, invoke, builtin, Sem.run_bind, Sem.run_pure, Result.andThen_ok, List.map_toArray, List.map_cons, List.map_nil, hs, hx, hr]
  exact hK _ _ (h v' w' h2 h3 h4)

set_option maxHeartbeats 1000000 in
set_option maxRecDepth 100000 in
theorem write_but (b : Nat) (v : Value) (l : List UInt8) (s : ByteArray) (w : World) (h : BdV w b v l) (hlen : l.length + s.size ≤ 140737488355328) :
    Calls Tryd.prog 67 #[.pointer (some ⟨b, 0, none⟩), .string s] w fun e w' => ∃ v', e = .returned (.tuple #[.int .i64 s.size, .nilIface]) ∧ BdV w' b v' (l ++ B s) ∧ But (foot b v) w w' ∧ Grown w v v' := by
  obtain ⟨i0, hi, hz0, hz1, hz2⟩ := info_parts info_byte
  have HC := Lib.hid (check_but b v l w h)
  have HH := Lib.hid h
  clear h
  go_enter Tryd.func67, Tryd.ntmps67
  go_wp2_with fail
  refine HC.out.mono ?_
  rintro e w1 ⟨rfl, hbk, hb1⟩
  have hown : w1.ownsRow 0 5 1 v (Lib.byteCells l).length (Lib.byteCells l) := by
    rw [Lib.byteCells_length]
    exact owns_but HH.out.row hb1 (fun g hg e => HH.out.apart (e ▸ hg))
  have hne := HH.out.apart
  have hl2 : (Lib.byteCells l).length + s.size ≤ 140737488355328 := by rw [Lib.byteCells_length]; exact hlen
  have c0 : w1.cell? ⟨b, 0, none⟩ = some (.pointer (some ⟨b, 0, none⟩)) := by rw [Lib.cell_of_heap hbk]; rfl
  have c1 : w1.cell? ⟨b, 1, none⟩ = some v := by rw [Lib.cell_of_heap hbk]; rfl
  have HB1 := Lib.hid hb1
  clear hb1
  go_wp2_with (at_builtin; refine wpList_append_string_at _ rfl _ _ 86 9 rfl 5 i0 Tryd.underlying86 Tryd.underlying9 hi hz0 hz1 hz2 _ _ _ rfl hown s rfl ?c3 ?c4 ?_)
  case c3 => unfold maxLen; omega
  case c4 => omega
  intro v' w2 hown' hgrow hat
  have hlt : b < w1.heap.size := (Array.getElem?_eq_some_iff.1 hbk).1
  have hb2 : w2.heap[b]? = some (.cells #[.pointer (some ⟨b, 0, none⟩), v] 88 (0, 0)) := by
    rw [hgrow.block b hlt (fun e => hne e.symm)]
    exact hbk
  have d0 : w2.cell? ⟨b, 0, none⟩ = some (.pointer (some ⟨b, 0, none⟩)) := by rw [Lib.cell_of_heap hb2]; rfl
  have d1 : w2.cell? ⟨b, 1, none⟩ = some v := by rw [Lib.cell_of_heap hb2]; rfl
  have f1 : w2.frozen? ⟨b, 1, none⟩ = false := Lib.frozen_of_heap hb2 1
  have HGW := Lib.hid hgrow
  have HAT := Lib.hid hat
  clear hgrow hat
  obtain ⟨ao, n', cap, rfl⟩ : ∃ ao n' cap, v' = .slice ao n' cap := by
    rcases hown'.2 with ⟨hv, _⟩ | ⟨g, cap, cur, hv, _⟩
    · exact ⟨_, _, _, hv⟩
    · exact ⟨_, _, _, hv⟩
  go_wp2
  go_ret2
  have hs1 := HB1.out.size
  have hat := HAT.out
  have hbut : But (foot b v) w w2 := (HB1.out.mono (fun k hk => .inl (.inl hk))).trans (But.of_grown HGW.out (fun k hk => hk)) (fun k hk => .inl (.inr hk))
  have hbut2 := hbut.setCell ⟨b, 1, none⟩ (.slice ao n' cap) (.inl (.inl rfl))
  have hgr : Grown w v (.slice ao n' cap) := by
    rcases hat with e | ⟨k, hk, e⟩
    · exact .inl e
    · exact .inr ⟨_, Nat.le_trans hs1 hk, e⟩
  have hap : (Value.slice ao n' cap).ownBlock ≠ some b := by
    rcases hat with e | ⟨k, hk, e⟩
    · rw [e]; exact hne
    · rw [e]; simp; omega
  refine ⟨_, rfl, ⟨.inr ?_, ?_, hap⟩, hbut2, hgr⟩
  · have := Blk.set (w := w2) (g := b) (t := 88) hb2 1 (.slice ao n' cap)
    simpa [Blk] using this
  · have e1 : Lib.byteCells l ++ Lib.strCells s = Lib.byteCells (l ++ B s) := cells_app l s
    have e2 : (Lib.byteCells l).length + s.size = (l ++ B s).length := by rw [Lib.byteCells_length, List.length_append, ← size_B]
    rw [e1, e2] at hown'
    exact owns_but hown' ((But.refl (fun k => k = b) w2).setCell ⟨b, 1, none⟩ (.slice ao n' cap) (.inl rfl)) (fun g hg e => hap (by rw [hg, e]))
end Go.Proofs.YtojpedgfllgbcaaDoor
