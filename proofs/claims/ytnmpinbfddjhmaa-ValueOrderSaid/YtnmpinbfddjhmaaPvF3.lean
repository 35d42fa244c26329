/- A part of the proof: functions of the program, walked, or what operations come to. -/
import Derived.Test.YtnmpinbfddjhmaaPvF1
namespace Go.Pv
/-! ### Sixteen digits of bits -/
def hexM (c : UInt8) : Option Nat :=
  if 48 ≤ c.toNat ∧ c.toNat ≤ 57 then some (c.toNat - 48)
  else if 97 ≤ c.toNat ∧ c.toNat ≤ 102 then some (c.toNat - 97 + 10)
  else if 65 ≤ c.toNat ∧ c.toNat ≤ 70 then some (c.toNat - 65 + 10) else none
theorem hexM_lt {c : UInt8} {n : Nat} (h : hexM c = some n) : n < 16 := by
  unfold hexM at h
  split at h
  · simp at h; omega
  · split at h
    · simp at h; omega
    · split at h
      · simp at h; omega
      · cases h
def hexAll (l : By) : Bool := l.all fun c => (hexM c).isSome
def hexV (l : By) : Nat := l.foldl (fun a c => a * 16 + (hexM c).getD 0) 0
def parseM (l : By) : Option Nat := if l.length = 16 ∧ hexAll l = true then some (hexV l) else none
theorem hexV_take (l : By) (k : Nat) (c : UInt8) (h : l[k]? = some c) : hexV (l.take (k + 1)) = hexV (l.take k) * 16 + (hexM c).getD 0 := by
  unfold hexV
  rw [List.take_add_one, h, List.foldl_append]; rfl
@[simp] theorem hexV_nil : hexV [] = 0 := rfl
@[simp] theorem hexAll_nil : hexAll [] = true := rfl
theorem hexV_lt (l : By) : hexV l < 16 ^ l.length := by
  suffices h : ∀ (l : By) (a m : Nat), a < m → l.foldl (fun a c => a * 16 + (hexM c).getD 0) a < m * 16 ^ l.length by
    have := h l 0 1 (by decide)
    simpa [hexV] using this
  intro l
  induction l with
  | nil => intro a m h; simpa using h
  | cons c l ih =>
    intro a m h
    have hc : (hexM c).getD 0 < 16 := by
      cases hq : hexM c with
      | none => simp
      | some n => exact hexM_lt hq
    have := ih (a * 16 + (hexM c).getD 0) (m * 16) (by omega)
    rw [List.foldl_cons, List.length_cons, Nat.pow_succ, Nat.mul_comm (16 ^ _) 16, ← Nat.mul_assoc]
    exact this
theorem wrapU (n : Int) (h : 0 ≤ n) (h' : n < 18446744073709551616) : IntKind.u64.wrap n = n := by
  simp [IntKind.wrap, IntKind.bits, IntKind.signed]; omega
theorem nib_or (v d : Nat) (hv : v * 16 < 18446744073709551616) (hd : d < 16) : IntKind.u64.wrap ((((IntKind.u64.wrap ((v : Int) * 2 ^ min 4 IntKind.u64.bits) % 2 ^ IntKind.u64.bits).toNat ||| d % 2 ^ IntKind.u64.bits : Nat) : Int)) = ((v * 16 + d : Nat) : Int) := by
  have e1 : (2 : Int) ^ min 4 IntKind.u64.bits = 16 := rfl
  have e2 : (2 : Int) ^ IntKind.u64.bits = 18446744073709551616 := rfl
  have e3 : d % 2 ^ IntKind.u64.bits = d := by rw [show (2 : Nat) ^ IntKind.u64.bits = 18446744073709551616 from rfl]; omega
  rw [e1, e2, e3, wrapU ((v : Int) * 16) (by omega) (by omega)]
  have a1 : ((v : Int) * 16 % 18446744073709551616).toNat = v <<< 4 := by rw [Nat.shiftLeft_eq]; omega
  rw [a1, ← Nat.shiftLeft_add_eq_or_of_lt (by omega), wrapU _ (by omega) (by rw [Nat.shiftLeft_eq]; omega), Nat.shiftLeft_eq]
end Go.Pv
