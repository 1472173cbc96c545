/- Trees in memory, beside a block that is written: what is read in a world without that block is read whatever the block holds. No program in sight. -/
import Derived.Test.YtojpedgfllgbcaaDoorTrM
namespace Go.Proofs.YtojpedgfllgbcaaDoor
open Go.RowKit

/-- All that is read in the one is read in the other. -/
def Sub (w w' : World) : Prop := ∀ a v, w.cell? a = some v → w'.cell? a = some v
theorem Sub.refl (w : World) : Sub w w := fun _ _ h => h
theorem Sub.trans {w w1 w2 : World} (h : Sub w w1) (h1 : Sub w1 w2) : Sub w w2 := fun a v hv => h1 a v (h a v hv)
theorem Rd.sub {w w' : World} {A : Option Addr} {n k : Nat} {xs : List Value} (h : Rd w A n k xs) (hs : Sub w w') : Rd w' A n k xs :=
  ⟨h.1, h.2.1, fun hn => let ⟨ad, e, hc⟩ := h.2.2 hn; ⟨ad, e, fun j u hu => hs _ _ (hc j u hu)⟩⟩
theorem RdA.sub {w w' : World} {A : Option Addr} {n : Nat} {l : List At} (h : RdA w A n l) (hs : Sub w w') : RdA w' A n l := ⟨h.1, Rd.sub h.2 hs⟩
theorem Cells.sub {w w' : World} (hs : Sub w w') : ∀ {f : Fo} {xs : List Value}, Cells w f xs → Cells w' f xs
  | .nil, _, h => h
  | .cons _ _ _, _, ⟨A, c, K, d, ys, zs, h1, h2, h3, h4, h5, h6, h7⟩ => ⟨A, c, K, d, ys, zs, h1, h2.sub hs, Rd.sub h3 hs, Cells.sub hs h4, h5, h6, Cells.sub hs h7⟩
theorem RdF.sub {w w' : World} {K : Option Addr} {d : Nat} {f : Fo} (h : RdF w K d f) (hs : Sub w w') : RdF w' K d f := by
  obtain ⟨xs, h1, h2, h3⟩ := h
  exact ⟨xs, Rd.sub h1 hs, h2.sub hs, h3⟩
theorem PartsOk.sub {w w' : World} {l : Lab} {k : Fo} {p : Parts} (h : PartsOk w l k p) (hs : Sub w w') : PartsOk w' l k p := ⟨h.1.sub hs, h.2.sub hs⟩
theorem cell_congr {w w' : World} {a : Addr} (h : w'.heap[a.block]? = w.heap[a.block]?) : w'.cell? a = w.cell? a := by
  unfold World.cell?
  rw [h]
/-- A world without what a block holds. -/
def wipe (w : World) (b : Nat) : World := w.setRow b #[]
theorem wipe_size (w : World) (b : Nat) : (wipe w b).heap.size = w.heap.size := by unfold wipe; simp
theorem wipe_other (w : World) {b k : Nat} (h : k ≠ b) : (wipe w b).heap[k]? = w.heap[k]? := setRow_other w b k #[] h
theorem wipe_none {w : World} {b : Nat} {t : TypeId} {cs : Array Value} {fr : Nat × Nat} (hb : Blk w b t cs fr) {a : Addr} (ha : a.block = b) : (wipe w b).cell? a = none := by
  have h := hb.setRow #[]
  unfold Blk at h
  obtain ⟨ab, ao, sp⟩ := a
  simp only at ha
  subst ha
  cases sp with
  | none => simp [World.cell?, wipe, h]
  | some x => simp [World.cell?, wipe, h]
/-- What is read without the block is read in each world that parts from w in that block alone. -/
theorem wipe_sub {w w' : World} {b : Nat} {t : TypeId} {cs : Array Value} {fr : Nat × Nat} (hb : Blk w b t cs fr) (h : ∀ k, k < w.heap.size → k ≠ b → w'.heap[k]? = w.heap[k]?) : Sub (wipe w b) w' := by
  intro a v hv
  by_cases ha : a.block = b
  · rw [wipe_none hb ha] at hv; cases hv
  · have hlt := World.block_lt_of_cell? _ _ hv
    rw [wipe_size] at hlt
    rw [cell_congr (wipe_other w ha)] at hv
    rw [cell_congr (h _ hlt ha)]
    exact hv
theorem wipe_wipe {w w' : World} {b : Nat} {t : TypeId} {cs : Array Value} {fr : Nat × Nat} (hb : Blk w b t cs fr) (h : ∀ k, k < w.heap.size → k ≠ b → w'.heap[k]? = w.heap[k]?) : Sub (wipe w b) (wipe w' b) :=
  wipe_sub hb (fun k hk hn => (wipe_other w' hn).trans (h k hk hn))
theorem wipe_self {w : World} {b : Nat} {t : TypeId} {cs : Array Value} {fr : Nat × Nat} (hb : Blk w b t cs fr) : Sub (wipe w b) w := wipe_sub hb (fun _ _ _ => rfl)
/-- A block that is new: what was there is read without it. -/
theorem wipe_new {w w' : World} (hb : Below w.heap.size w w') {b : Nat} (h : w.heap.size ≤ b) : Sub w (wipe w' b) := by
  intro a v hv
  have hlt := World.block_lt_of_cell? _ _ hv
  rw [cell_congr (wipe_other w' (by omega)), cell_congr (hb.block _ hlt)]
  exact hv
theorem but_other {w w' : World} {b : Nat} (h : But (fun k => k = b) w w') : ∀ k, k < w.heap.size → k ≠ b → w'.heap[k]? = w.heap[k]? := fun k hk hn => h.block k hk hn
theorem sub_of_below {w w' : World} (hb : Below w.heap.size w w') : Sub w w' := fun _ _ hv => cell_keep hb hv
/-- append to a row without room: a new row, of what was read in w0. -/
theorem run_append_fit0 {P : Program} (w0 w : World) (t ty e : TypeId) (i : TypeInfo) (z : Value) (bytes : Nat) (ht : P.underlying t = some (.slice e)) (hi : P.info? e = some i) (hz : i.zero = some z) (hsize : i.size = 6) (hby : i.bytes = bytes) (hzs : z.cells.size = 6)
    (q : Parts) (k : Fo) (hk : RdF w0 q.K q.d k) (hs : Sub w0 w) (hf : FitK q k) (ad : Addr) (c : Nat) (l : List (Lab × Fo)) (news : List Value) (hr : Rd w (some ad) l.length 6 news) (hcn : Cells w0 (Fo.ofL l) news) (hl : 0 < l.length) (hb : (k.len + l.length) * bytes ≤ 140737488355328) (hm : k.len + l.length ≤ maxLen) :
    ∃ K d w' ys, (Builtin.append_ #[t, t] ty #[.slice q.K k.len q.d, .slice (some ad) l.length c]).run P w = .ok (.slice K (k.len + l.length) d) w' ∧ w'.ownsRow w.heap.size e 6 (.slice K (k.len + l.length) d) (k.len + l.length) ys ∧ Cells w0 (Fo.ofL (k.toL ++ l)) ys ∧ Below w.heap.size w w' := by
  obtain ⟨xs, h1, h2, h3, h4⟩ := hk.to
  have hone := (h2.append hcn).one
  have fin : ∀ (v' : Value) (w' : World), w'.ownsRow w.heap.size e 6 v' (k.len + l.length) (xs ++ news) → ∃ K d, v' = .slice K (k.len + l.length) d := fun v' w' ho => by
    obtain ⟨K, d, hv, _⟩ := own_rd ho hone
    exact ⟨K, d, hv⟩
  rcases hf with ⟨e1, e2, e3⟩ | ⟨e1, e2⟩
  · have hx : xs = [] := List.eq_nil_of_length_eq_zero (by have := h1.1; rw [show k.toL.length = 0 from e3] at this; simpa using this)
    obtain ⟨v', w', hrun, ho, hg, _⟩ := run_append_any (P := P) w t ty w.heap.size e i z 6 bytes ht hi hz hsize hby hzs (by omega) (.slice none 0 0) 0 [] (World.ownsRow_nil _ _ _ _) (some ad) l.length c news hr (by omega) (by rw [e3] at hb; exact hb) (Nat.le_refl _)
    rw [Nat.zero_add, List.nil_append] at ho
    have hbel : Below w.heap.size w w' := ⟨hg.os, hg.tape, hg.output, hg.size, fun j hj => hg.block j hj (by simp [Value.ownBlock])⟩
    have ho2 : w'.ownsRow w.heap.size e 6 v' (k.len + l.length) (xs ++ news) := by rw [hx, List.nil_append, e3, Nat.zero_add]; exact ho
    obtain ⟨K, d, rfl⟩ := fin v' w' ho2
    exact ⟨K, d, w', _, by rw [e1, e2, e3]; exact hrun.trans (by rw [e3]), ho2, h2.append hcn, hbel⟩
  · obtain ⟨b, hK, hcell⟩ := h1.2.2 e2
    obtain ⟨ad', e4, hnc⟩ := hr.2.2 hl
    cases e4
    obtain ⟨v', w', hrun, ho, hg⟩ := run_append_arg_grows (P := P) w t ty e i z 6 bytes ht hi hz hsize hby hzs (by omega) b k.len q.d xs h1.1 (fun j u hj => hs _ _ (hcell j u hj)) ad l.length c news hr.1 hnc (by omega) hm hb
    have hbel : Below w.heap.size w w' := ⟨hg.os, hg.tape, hg.output, hg.size, fun j hj => hg.block j hj (by simp)⟩
    obtain ⟨K, d, rfl⟩ := fin v' w' ho
    exact ⟨K, d, w', _, by rw [hK]; exact hrun, ho, h2.append hcn, hbel⟩
/-- A row of one's own that holds a tree's cells. -/
theorem rdF_own {w : World} {base n : Nat} {e : TypeId} {K : Option Addr} {d : Nat} {f : Fo} {ys : List Value} (ho : w.ownsRow base e 6 (.slice K n d) n ys) (hc : Cells w f ys) (hn : f.len = n) : RdF w K d f := by
  subst hn
  obtain ⟨K2, d2, hv, hnd, hrd, _⟩ := own_rd ho hc.one
  cases hv
  refine ⟨ys, hrd, hc, hnd, ?_⟩
  rcases ho.2 with ⟨e1, e2⟩ | ⟨g, cap, cur, e1, _, _, _, hcm, _, _⟩
  · rw [Value.slice.injEq] at e1; rw [e1.2.2]; exact Nat.zero_le _
  · rw [Value.slice.injEq] at e1; rw [e1.2.2]; exact hcm
end Go.Proofs.YtojpedgfllgbcaaDoor
