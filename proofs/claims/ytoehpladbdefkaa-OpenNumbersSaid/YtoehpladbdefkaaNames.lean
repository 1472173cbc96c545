/- Names: the functions of package names, and of its reference, that chapters 18 and 19 use: each with what it answers. -/
import Derived.Test.YtoehpladbdefkaaBase
import Derived.Test.YtoehpladbdefkaaProg
import Derived.WalkKit
import Derived.KernelRfl
import Derived.WalkLawsBesides
import Derived.WalkSpells
import Derived.Lib.Hide
namespace Go.Proofs.Ytoehpladbdefkaa
open Go.RowKit

/-- Is a text among some? -/
def inB (s : ByteArray) (l : List ByteArray) : Bool := l.any (fun x => s.toList == x.toList)
def strs (l : List ByteArray) : List Value := l.map Value.string
theorem inB_take {s : ByteArray} {l : List ByteArray} {j : Nat} {x : ByteArray} (h : inB s (l.take j) = false) (hx : l[j]? = some x) : inB s (l.take (j + 1)) = (s.toList == x.toList) := by
  unfold inB at *
  rw [List.take_add_one, hx, List.any_append, h]
  simp
theorem inB_hit {s : ByteArray} {l : List ByteArray} {j : Nat} (h : inB s (l.take j) = true) : inB s l = true := by
  unfold inB at *
  obtain ⟨x, hx, he⟩ := List.any_eq_true.1 h
  exact List.any_eq_true.2 ⟨x, List.mem_of_mem_take hx, he⟩
theorem strs_at {w : World} {ad : Addr} {l : List ByteArray} {j : Nat} {x : ByteArray} (hc : ∀ j u, (strs l)[j]? = some u → w.cell? (ad.add j) = some u) (hx : l[j]? = some x) : w.cell? (ad.add j) = some (.string x) :=
  hc j _ (by unfold strs; rw [List.getElem?_map, hx]; rfl)
theorem rd_lit (w : World) (e : TypeId) (l : List ByteArray) : Rd (w.alloc (.cells (strs l).toArray e)) (some ⟨w.heap.size, 0, none⟩) l.length 1 (strs l) :=
  ⟨by simp [strs], fun u hu => by obtain ⟨x, _, rfl⟩ := List.mem_map.1 hu; rfl, fun _ => ⟨_, rfl, fun j u hu => by
    have hb1 : Blk (w.alloc (.cells (strs l).toArray e)) w.heap.size e (strs l).toArray (0, 0) := Blk.new w _ _ _
    rw [add0, hb1.cell j, List.getElem?_toArray]; exact hu⟩⟩

def boundN : List ByteArray := [⟨#[97, 112, 112, 108, 101, 116]⟩, ⟨#[104, 116, 109, 108]⟩, ⟨#[109, 97, 114, 113, 117, 101, 101]⟩, ⟨#[111, 98, 106, 101, 99, 116]⟩, ⟨#[116, 97, 98, 108, 101]⟩, ⟨#[116, 100]⟩, ⟨#[116, 101, 109, 112, 108, 97, 116, 101]⟩, ⟨#[116, 104]⟩]
def impliedN : List ByteArray := [⟨#[100, 100]⟩, ⟨#[100, 116]⟩, ⟨#[108, 105]⟩, ⟨#[112]⟩]
def thoroughN : List ByteArray := [⟨#[116, 98, 111, 100, 121]⟩, ⟨#[116, 100]⟩, ⟨#[116, 102, 111, 111, 116]⟩, ⟨#[116, 104]⟩, ⟨#[116, 104, 101, 97, 100]⟩, ⟨#[116, 114]⟩]
def pointN : List ByteArray := [⟨#[102, 111, 114, 101, 105, 103, 110, 79, 98, 106, 101, 99, 116]⟩, ⟨#[100, 101, 115, 99]⟩, ⟨#[116, 105, 116, 108, 101]⟩]

set_option maxHeartbeats 1000000 in
theorem index_names (w : World) (A : Option Addr) (c : Nat) (l : List ByteArray) (s : ByteArray) (h : Rd w A l.length 1 (strs l)) (hb : l.length ≤ 9223372036854775807) :
    Calls Try.prog 130 #[.slice A l.length c, .string s] w fun e w' => (∃ k : Int, e = .returned (.int .i64 k) ∧ decide (k ≥ 0) = inB s l) ∧ w = w' := by
  have H := Lib.hid h
  clear h
  go_enter Try.func130, Try.ntmps130
  go_wp2_with fail
  go_loopw [8] (fun i wr => ∃ j : Nat, j ≤ l.length ∧ i = .int .i64 j ∧ wr = w ∧ inB s (l.take j) = false) (fun i _ => l.length - (intOf i).toNat)
  case atStart => exact ⟨0, Nat.zero_le _, rfl, rfl, rfl⟩
  case round =>
    obtain ⟨j, hj, rfl, rfl, ht⟩ := hrel
    have HT := Lib.hid ht
    clear ht
    by_cases hlt : j < l.length
    · obtain ⟨x, hx⟩ : ∃ x, l[j]? = some x := ⟨_, List.getElem?_eq_getElem hlt⟩
      obtain ⟨a1, rfl, hc1⟩ := H.out.2.2 (by omega)
      have k1 := strs_at hc1 hx
      have s1 : IntKind.i64.wrap ((j : Int) + 1) = (j : Int) + 1 := IntWalk.i64_in _ (by omega)
      have d0 : decide ((j : Int) < (l.length : Int)) = true := decide_eq_true (by omega)
      have HX := Lib.hid (inB_take HT.out hx)
      clear hc1 hx
      cases hq : (s.toList == x.toList)
      · have HQ := Lib.hid hq
        go_wp2_with fail
        exact ⟨⟨j + 1, by omega, by go_num, by simp, by rw [HX.out]; exact HQ.out⟩, by simp [intOf]; omega⟩
      · have HQ := Lib.hid hq
        go_wp2_with fail
        go_ret
        exact ⟨⟨_, rfl, by rw [inB_hit (HX.out.trans HQ.out)]; exact decide_eq_true (by omega)⟩, rfl⟩
    · have d0 : decide ((j : Int) < (l.length : Int)) = false := decide_eq_false (by omega)
      have ht := HT.out
      rw [List.take_of_length_le (by omega)] at ht
      have HE := Lib.hid ht
      clear ht
      go_wp2_with fail
      go_ret
      exact ⟨⟨_, rfl, by rw [HE.out]; rfl⟩, rfl⟩
theorem contains_names (w : World) (A : Option Addr) (c : Nat) (l : List ByteArray) (s : ByteArray) (h : Rd w A l.length 1 (strs l)) (hb : l.length ≤ 9223372036854775807) :
    Calls Try.prog 112 #[.slice A l.length c, .string s] w fun e w' => e = .returned (.bool (inB s l)) ∧ w = w' := by
  have H := Lib.hid (index_names w A c l s h hb)
  clear h
  go_enter Try.func112, Try.ntmps112
  go_wp2_with fail
  refine H.out.mono ?_
  rintro e w' ⟨⟨k, rfl, hk⟩, rfl⟩
  go_wp2_with fail
  go_ret
  exact ⟨rfl, rfl⟩

set_option maxHeartbeats 1000000 in
theorem in_names (w : World) (A : Option Addr) (c : Nat) (l : List ByteArray) (s : ByteArray) (h : Rd w A l.length 1 (strs l)) (hb : l.length ≤ 9223372036854775807) :
    Calls Try.prog 87 #[.string s, .slice A l.length c] w fun e w' => e = .returned (.bool (inB s l)) ∧ w = w' := by
  have H := Lib.hid h
  clear h
  go_enter Try.func87, Try.ntmps87
  go_wp2_with fail
  go_loopw [5] (fun i wr => ∃ j : Nat, j ≤ l.length ∧ i = .int .i64 j ∧ wr = w ∧ inB s (l.take j) = false) (fun i _ => l.length - (intOf i).toNat)
  case atStart => exact ⟨0, Nat.zero_le _, rfl, rfl, rfl⟩
  case round =>
    obtain ⟨j, hj, rfl, rfl, ht⟩ := hrel
    have HT := Lib.hid ht
    clear ht
    by_cases hlt : j < l.length
    · obtain ⟨x, hx⟩ : ∃ x, l[j]? = some x := ⟨_, List.getElem?_eq_getElem hlt⟩
      obtain ⟨a1, rfl, hc1⟩ := H.out.2.2 (by omega)
      have k1 := strs_at hc1 hx
      have s1 : IntKind.i64.wrap ((j : Int) + 1) = (j : Int) + 1 := IntWalk.i64_in _ (by omega)
      have d0 : decide ((j : Int) < (l.length : Int)) = true := decide_eq_true (by omega)
      have HX := Lib.hid (inB_take HT.out hx)
      clear hc1 hx
      cases hq : (x.toList == s.toList)
      · have HQ := Lib.hid (show (s.toList == x.toList) = false by rw [BEq.comm]; exact hq)
        go_wp2_with fail
        exact ⟨⟨j + 1, by omega, by go_num, by simp, by rw [HX.out]; exact HQ.out⟩, by simp [intOf]; omega⟩
      · have HQ := Lib.hid (show (s.toList == x.toList) = true by rw [BEq.comm]; exact hq)
        go_wp2_with fail
        go_ret
        exact ⟨congrArg (fun b => Ending.returned (.bool b)) (inB_hit (HX.out.trans HQ.out)).symm, rfl⟩
    · have d0 : decide ((j : Int) < (l.length : Int)) = false := decide_eq_false (by omega)
      have ht := HT.out
      rw [List.take_of_length_le (by omega)] at ht
      have HE := Lib.hid ht
      clear ht
      go_wp2_with fail
      go_ret
      exact ⟨congrArg (fun b => Ending.returned (.bool b)) HE.out.symm, rfl⟩

theorem names_implied (w : World) (s : ByteArray) : Calls Try.prog 82 #[.string s] w fun e w' => e = .returned (.bool (inB s impliedN)) ∧ w = w' := by
  go_enter Try.func82, Try.ntmps82
  go_wp2_with fail
  all_goals
    go_ret
    refine ⟨congrArg (fun b => Ending.returned (.bool b)) ?_, rfl⟩
    simp_all [inB, impliedN]

theorem names_thorough (w : World) (s : ByteArray) : Calls Try.prog 83 #[.string s] w fun e w' => e = .returned (.bool (inB s thoroughN || inB s impliedN)) ∧ w = w' := by
  have H := fun w => names_implied w s
  generalize hI : inB s impliedN = bI at *
  clear hI
  go_enter Try.func83, Try.ntmps83
  go_wp2_with (first
    | (go_at_call 82; refine (H _).mono ?_; rintro e w' ⟨rfl, rfl⟩))
  all_goals
    go_ret
    refine ⟨congrArg (fun b => Ending.returned (.bool b)) ?_, rfl⟩
    simp_all [inB, thoroughN]

theorem names_point (w : World) (ns : Int) (s : ByteArray) : Calls Try.prog 131 #[.int .i64 ns, .string s] w fun e w' => e = .returned (.bool (inB s pointN && ns == 2)) ∧ w = w' := by
  go_enter Try.func131, Try.ntmps131
  go_wp2_with fail
  all_goals
    go_ret
    refine ⟨congrArg (fun b => Ending.returned (.bool b)) ?_, rfl⟩
    simp_all [inB, pointN]

/-- What ends a scope. -/
def boundB (ns : Int) (s : ByteArray) : Bool := (ns == 2 && inB s pointN) || (ns == 1 && inB s boundN)
theorem names_bound (w : World) (ns : Int) (s : ByteArray) : Calls Try.prog 113 #[.int .i64 ns, .string s] w fun e w' => e = .returned (.bool (boundB ns s)) ∧ w = w' := by
  have H := fun w => names_point w ns s
  unfold boundB
  by_cases h1 : ns = 1
  · subst h1
    go_enter Try.func113, Try.ntmps113
    go_wp2_with fail
    all_goals
      go_ret
      refine ⟨congrArg (fun b => Ending.returned (.bool b)) ?_, rfl⟩
      simp_all [inB, boundN]
  · have e1 : (ns == 1) = false := by rw [beq_eq_false_iff_ne]; exact h1
    go_enter Try.func113, Try.ntmps113
    go_wp2_with fail
    refine (H _).mono ?_
    rintro e w' ⟨rfl, rfl⟩
    go_wp2_with fail
    go_ret
    exact ⟨congrArg (fun b => Ending.returned (.bool b)) (by rw [e1, Bool.false_and, Bool.or_false, Bool.and_comm]), rfl⟩

theorem ref_point (w : World) (ns : Int) (s : ByteArray) : Calls Try.prog 132 #[.int .i64 ns, .string s] w fun e w' => e = .returned (.bool (ns == 2 && inB s pointN)) ∧ Below w.heap.size w w' := by
  have H := fun W => in_names (W.alloc (.cells (strs pointN).toArray 9)) (some ⟨W.heap.size, 0, none⟩) 3 pointN s (rd_lit W _ pointN) (by decide)
  cases h2 : ns == 2
  · go_enter Try.func132, Try.ntmps132
    go_wp2_with fail
    go_ret
    exact ⟨rfl, Below.refl _ _⟩
  · go_enter Try.func132, Try.ntmps132
    go_wp2_with fail
    refine (H _).mono ?_
    rintro e w' ⟨rfl, rfl⟩
    go_wp2_with fail
    go_ret
    exact ⟨rfl, (Below.refl _ _).alloc (Nat.le_refl _) _⟩
theorem ref_implied (w : World) (s : ByteArray) : Calls Try.prog 50 #[.string s] w fun e w' => e = .returned (.bool (inB s impliedN)) ∧ Below w.heap.size w w' := by
  have H := fun W => in_names (W.alloc (.cells (strs impliedN).toArray 9)) (some ⟨W.heap.size, 0, none⟩) 4 impliedN s (rd_lit W _ impliedN) (by decide)
  go_enter Try.func50, Try.ntmps50
  go_wp2_with fail
  refine (H _).mono ?_
  rintro e w' ⟨rfl, rfl⟩
  go_wp2_with fail
  go_ret
  exact ⟨rfl, (Below.refl _ _).alloc (Nat.le_refl _) _⟩
theorem ref_thorough (w : World) (s : ByteArray) : Calls Try.prog 49 #[.string s] w fun e w' => e = .returned (.bool (inB s thoroughN || inB s impliedN)) ∧ Below w.heap.size w w' := by
  have H := fun W => in_names (W.alloc (.cells (strs thoroughN).toArray 9)) (some ⟨W.heap.size, 0, none⟩) 6 thoroughN s (rd_lit W _ thoroughN) (by decide)
  have H1 := fun w => ref_implied w s
  cases hq : inB s impliedN
  all_goals
    rw [hq] at H1
    go_enter Try.func49, Try.ntmps49
    go_wp2_with fail
    refine (H1 _).mono ?_
    rintro e w1 ⟨rfl, hb1⟩
    go_wp2_with (first
      | (go_at_call 87; refine (H _).mono ?_; rintro e w' ⟨rfl, rfl⟩))
    go_ret
    first
      | exact ⟨by simp, hb1⟩
      | exact ⟨by simp, hb1.alloc hb1.size _⟩
theorem ref_bound (w : World) (ns : Int) (s : ByteArray) : Calls Try.prog 114 #[.int .i64 ns, .string s] w fun e w' => e = .returned (.bool (boundB ns s)) ∧ Below w.heap.size w w' := by
  have H := fun W => in_names (W.alloc (.cells (strs boundN).toArray 9)) (some ⟨W.heap.size, 0, none⟩) 8 boundN s (rd_lit W _ boundN) (by decide)
  have H1 := fun w => ref_point w ns s
  unfold boundB
  cases hq : (ns == 2 && inB s pointN)
  all_goals
    rw [hq] at H1
    cases h1 : (ns == 1)
    all_goals
      go_enter Try.func114, Try.ntmps114
      go_wp2_with fail
      refine (H1 _).mono ?_
      rintro e w1 ⟨rfl, hb1⟩
      go_wp2_with (first
        | (go_at_call 87; refine (H _).mono ?_; rintro e w' ⟨rfl, rfl⟩))
      go_ret
      first
        | exact ⟨by simp, hb1⟩
        | exact ⟨by simp, hb1.alloc hb1.size _⟩

def tablesN : List ByteArray := [⟨#[104, 116, 109, 108]⟩, ⟨#[116, 97, 98, 108, 101]⟩, ⟨#[116, 101, 109, 112, 108, 97, 116, 101]⟩]
def listsN : List ByteArray := [⟨#[111, 108]⟩, ⟨#[117, 108]⟩]
def buttonsN : List ByteArray := [⟨#[98, 117, 116, 116, 111, 110]⟩]
/-- What ends a scope of a kind. -/
def openB (kind ns : Int) (s : ByteArray) : Bool := if kind = 4 then ns == 1 && inB s tablesN else if kind = 2 then (ns == 1 && inB s listsN) || boundB ns s else if kind = 3 then (ns == 1 && inB s buttonsN) || boundB ns s else boundB ns s
theorem open_bounds (w : World) (kind ns : Int) (s : ByteArray) : Calls Try.prog 71 #[.int .i64 kind, .int .i64 ns, .string s] w fun e w' => e = .returned (.bool (openB kind ns s)) ∧ w = w' := by
  have H := fun w => names_bound w ns s
  generalize hI : boundB ns s = bI at *
  unfold openB
  rw [hI]
  clear hI
  cases hn : (ns == 1)
  all_goals
    go_enter Try.func71, Try.ntmps71
    go_wp2_with (first
      | (go_at_call 113; refine (H _).mono ?_; rintro e w' ⟨rfl, rfl⟩))
    all_goals
      go_ret
      refine ⟨congrArg (fun b => Ending.returned (.bool b)) ?_, rfl⟩
      first | (simp_all [inB, tablesN, listsN, buttonsN]; done) | simp_all [inB, tablesN, Bool.or_assoc]

end Go.Proofs.Ytoehpladbdefkaa
