/- A small token may be told. No program in sight. -/
import Derived.Test.YtjghkiphfpeocaaTokF
namespace Go.Proofs.Ytjghkiphfpeocaa

theorem headB_fit (s : ByteArray) (n : Nat) : (headB s n).size ≤ n := by
  unfold headB
  split
  · rw [size_B, B_piece, List.length_take, List.length_drop]; omega
  · omega
theorem szA_cut (l : List At) : szA (l.map cutA) ≤ 52 * l.length := by
  unfold szA
  induction l with
  | nil => simp
  | cons a l ih =>
    rw [List.map_cons, List.map_cons, List.sum_cons, List.length_cons]
    have h1 := headB_fit a.name 20
    have h2 := headB_fit a.val 30
    have e1 : (cutA a).name = headB a.name 20 := rfl
    have e2 : (cutA a).val = headB a.val 30 := rfl
    rw [e1, e2]
    omega
theorem few_fits (t : Tk) : (fewT t).fits ∧ (fewT t).al.length ≤ 6 ∧ (fewT t).nm.size ≤ 20 ∧ (fewT t).tx.size ≤ 60 := by
  have h1 := headB_fit t.nm 20
  have h2 := headB_fit t.tx 60
  have h3 := shortA_len t.al
  have h4 := szA_cut (t.al.take 6)
  have h5 : (t.al.take 6).length ≤ 6 := by rw [List.length_take]; omega
  refine ⟨?_, h3, h1, h2⟩
  unfold Tk.fits fewT
  simp only
  have e : shortA t.al = (t.al.take 6).map cutA := rfl
  rw [e]
  omega
end Go.Proofs.Ytjghkiphfpeocaa
