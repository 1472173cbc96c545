/- Joined texts: Elder, KeepH. -/
import Derived.Test.YtdjeajbinpgpiaaGreatJLexerTells2
import Derived.Test.YtdjeajbinpgpiaaGreatJLexerTells5
import Derived.Deep.WholeRow
namespace Go.Proofs.YtdjeajbinpgpiaaGreat
open Go.RowKit

def elderV : Array Value := elderT.toArray.map (fun (n : Nat) => Value.int .i32 (n : Int))
theorem elderV_lit : elderV = #[.int .i32 8364, .int .i32 0, .int .i32 8218, .int .i32 402, .int .i32 8222, .int .i32 8230, .int .i32 8224, .int .i32 8225, .int .i32 710, .int .i32 8240, .int .i32 352, .int .i32 8249, .int .i32 338, .int .i32 0, .int .i32 381, .int .i32 0, .int .i32 0, .int .i32 8216, .int .i32 8217, .int .i32 8220, .int .i32 8221, .int .i32 8226, .int .i32 8211, .int .i32 8212, .int .i32 732, .int .i32 8482, .int .i32 353, .int .i32 8250, .int .i32 339, .int .i32 0, .int .i32 382, .int .i32 376] := by simp [elderV, elderT]
theorem elderV_at (k : Nat) (h : k < 32) : elderV[k]? = some (.int .i32 (elderT.getD k 0 : Nat)) := by
  unfold elderV
  rw [Array.getElem?_map, List.getElem?_toArray, List.getD_eq_getElem?_getD]
  have : k < elderT.length := h
  rw [List.getElem?_eq_getElem this]
  rfl

theorem wpList_build_eq {P : Program} {ops : Array Oper} {rest : List Oper} {o : Oper} {a : Act} {w : World} {Q : Exit → Act → World → Prop} (hg : o.guard = none) (t : TypeId) (parts : Array (Nat × Operand)) (ho : o.op = .build t parts)
    (cs : Array Value) (hcs : P.built t (parts.map fun (i, x) => (i, a.eval x)).toList = some cs)
    (h : wpList P ops Q rest (a.put o.dst (.agg cs)) w) : wpList P ops Q (o :: rest) a w :=
  wpList_build hg t parts ho (by rw [hcs]; rfl) (by rw [hcs]; exact h)
set_option maxHeartbeats 1000000 in
set_option maxRecDepth 100000 in
theorem elder_any (w : World) :
    Calls Tryz.prog 120 #[] w fun e w' => e = .returned (.agg elderV) ∧ Below w.heap.size w w' := by
  go_enter Tryz.func120, Tryz.ntmps120
  go_wp2_with (first
    | (refine wpList_build_eq rfl _ _ rfl elderV (by kernel_rfl) ?_)
    | (refine wpList_store_row rfl _ _ _ rfl _ elderV (by rfl) (by rfl) _ _ (heap_alloc_last w _) (by kernel_rfl) (by kernel_rfl) (by kernel_rfl) ?_))
  rw [World.setRow_alloc_new]
  exact bodyPost_ret (v := .agg elderV) (results_cell_row (fn := Tryz.f120) (p := 0) rfl _ _ w.heap.size _ elderV (0, 0) _ (by rfl) (heap_alloc_last w _) Tryz.underlying117 (by rfl) (by kernel_rfl)) rfl
    ⟨rfl, (Below.refl _ _).alloc (Nat.le_refl _) _⟩
end Go.Proofs.YtdjeajbinpgpiaaGreat

namespace Go.Proofs.YtdjeajbinpgpiaaGreat
open Go.RowKit

theorem occ_take (l sub : List UInt8) (k : Nat) (h : sub.length ≤ l.length - k) : (((l.drop k).take sub.length) == sub) = startsL l sub k := by
  unfold startsL Lib.occAt
  rw [← Lib.hasPrefix, ← Lib.hasPrefix_of_take, decide_eq_true (by rw [List.length_drop]; exact h), Bool.true_and]
theorem occ_short (l sub : List UInt8) (k : Nat) (h : ¬ sub.length ≤ l.length - k) : startsL l sub k = false := by
  unfold startsL Lib.occAt
  rw [← Lib.hasPrefix, ← Lib.hasPrefix_of_take, decide_eq_false (by rw [List.length_drop]; exact h), Bool.false_and]

theorem head_any (s : ByteArray) (n : Int) (w : World) (h0 : 0 ≤ n) (_hs : s.size ≤ 9223372036854775807) :
    Calls Tryz.prog 8 #[.string s, .int .i64 n] w fun e w' => e = .returned (.string (headB s n.toNat)) ∧ w = w' := by
  obtain ⟨n, rfl⟩ := Int.eq_ofNat_of_zero_le h0
  by_cases hlt : n < s.size
  · go_enter Tryz.func8, Tryz.ntmps8
    go_wp2_with fail
    go_ret
    exact ⟨ret_str (by unfold headB; rw [Int.toNat_natCast, if_pos hlt]), rfl⟩
  · go_enter Tryz.func8, Tryz.ntmps8
    go_wp2_with fail
    go_ret
    exact ⟨ret_str (by unfold headB; rw [Int.toNat_natCast, if_neg hlt]), rfl⟩

theorem bwithin_any (n lo hi : Int) (w : World) (h0 : 0 ≤ lo) (h : lo ≤ hi) (h2 : hi ≤ 140737488355328) :
    Calls Tryz.prog 22 #[.int .i64 n, .int .i64 lo, .int .i64 hi] w fun e w' => e = .returned (.int .i64 (withinI n lo hi)) ∧ w = w' := by
  have h1 := Int.tmod_lt_of_pos n (show 0 < hi - lo + 1 by omega)
  have h3 := Int.lt_tmod_of_pos n (show 0 < hi - lo + 1 by omega)
  have e : ((hi - lo + 1) == 0) = false := by rw [beq_eq_false_iff_ne]; omega
  go_enter Tryz.func22, Tryz.ntmps22
  go_wp2_with fail
  · go_ret
    exact ⟨ret_int (by unfold withinI; rw [if_pos (by assumption)]), rfl⟩
  · go_ret
    exact ⟨ret_int (by unfold withinI; rw [if_neg (by omega)]), rfl⟩
end Go.Proofs.YtdjeajbinpgpiaaGreat
