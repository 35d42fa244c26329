/- A part of the proof: functions of the program, walked, or what operations come to. -/
import Derived.Test.YtnmpinbfddjhmaaPvV6
namespace Go.Pv
open Go.Proofs
attribute [-simp] eLen UInt8.ofNat_add
/-- What is left behind a sign. -/
def unsign (l : By) : By := if preB l [45] then l.drop 1 else l
theorem sized_some (l : By) : (sizedM l).isSome = digsB (unsign l) := by
  unfold sizedM
  show (if digsB (unsign l) = true then _ else none).isSome = _
  cases digsB (unsign l) <;> rfl
theorem preB_one (l : By) (c : UInt8) : preB l [c] = match l with | [] => false | x :: _ => x == c := by
  cases l with
  | nil => simp [preB]
  | cons x l => simp [preB, List.take_succ_cons]; rfl
inductive Shp : Bool → By → Prop
  | zero : Shp false []
  | num (b : Bool) (x : UInt8) (ds : By) (h1 : 49 ≤ x.toNat) (h2 : x.toNat ≤ 57) : Shp b (x :: ds)
theorem dropWhile_head (p : UInt8 → Bool) (r : By) (x : UInt8) (t : By) (h : r.dropWhile p = x :: t) : p x = false ∧ x ∈ r := by
  induction r with
  | nil => cases h
  | cons y r ih =>
    rw [List.dropWhile_cons] at h
    split at h
    · obtain ⟨h1, h2⟩ := ih h; exact ⟨h1, by simp [h2]⟩
    · rename_i hq; cases h; exact ⟨by simpa using hq, by simp⟩
theorem sizedM_shape {l : By} {b : Bool} {ds : By} (h : sizedM l = some (b, ds)) : Shp b ds := by
  have hs : (sizedM l).isSome = true := by rw [h]; rfl
  rw [sized_some] at hs
  have hz : sizedM l = some (preB l [45] && !((unsign l).dropWhile (· == 48)).isEmpty, (unsign l).dropWhile (· == 48)) := by
    show (if digsB (unsign l) = true then _ else none) = _
    rw [if_pos hs]; rfl
  rw [hz] at h
  simp only [Option.some.injEq, Prod.mk.injEq] at h
  obtain ⟨hb, hd⟩ := h
  rw [hd] at hb
  cases ds with
  | nil => simp at hb; subst hb; exact .zero
  | cons x ds =>
    obtain ⟨k1, k2⟩ := dropWhile_head _ _ _ _ hd
    simp only [digsB, Bool.and_eq_true] at hs
    have k3 := List.all_eq_true.1 hs.2 x k2
    simp only [isDig, decide_eq_true_eq] at k3
    have k4 : ¬ x = 48 := by simpa using k1
    have k5 : x.toNat ≠ 48 := fun q => k4 (UInt8.toNat_inj.1 (by rw [q]; rfl))
    exact .num b x ds (by omega) (by omega)
end Go.Pv
