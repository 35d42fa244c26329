/- A part of the proof: functions of the program, walked, or what operations come to. -/
import Derived.Test.YtaglagcanhiemaaDoorPvN5
namespace Go.Pv
theorem Grow.keep {H H' : Heap} {d : D} {e : TypeId} {l : List D} (h : Grow H d e l) (hn : H.nx ≤ H'.nx) (hf : ∀ j, j < H.nx → H'.get j = H.get j) : Grow H' d e l := by
  rcases h with h | ⟨i, h1, h2, h3, h4⟩
  · exact .inl h
  · exact .inr ⟨i, by omega, h2, by rw [hf i h1]; exact h3, h4⟩
theorem Grow.row {H : Heap} {d : D} {e : TypeId} {l : List D} (h : Grow H d e l) (hl : l ≠ []) : ∃ i, i < H.nx ∧ d = .row i e 0 l.length ∧ H.get i = some (.row e l) := by
  rcases h with ⟨h, _⟩ | ⟨i, h1, h2, h3, h4⟩
  · exact absurd h hl
  · exact ⟨i, h1, h2, h3⟩
theorem Grow.one {H : Heap} {e : TypeId} (x : D) : Grow (H.new (.row e [x])) (.row H.nx e 0 1) e [x] := .inr ⟨H.nx, by simp, rfl, by simp, by simp⟩
theorem Grow.of {H : Heap} {i : Nat} {e : TypeId} {l : List D} (h1 : i < H.nx) (h2 : H.get i = some (.row e l)) (h3 : l ≠ []) : Grow H (.row i e 0 l.length) e l := .inr ⟨i, h1, rfl, h2, h3⟩
theorem cnt_pos (n k : Nat) (h : k < cnt n) : 0 < n / 128 ^ (k + 1) := by
  have := cnt_step n k h
  rw [div_pow_succ']
  exact Nat.div_pos this (by decide)
theorem cnt_zero (n : Nat) : n / 128 ^ (cnt n + 1) = 0 := by
  rw [div_pow_succ']; exact Nat.div_eq_of_lt (cnt_last n)
theorem u8_lo (z : Nat) : D.val (.int .u8 (IntKind.u8.wrap ((z % 128 : Nat) : Int))) = byD (UInt8.ofNat (z % 128)) := by
  rw [byD, show (UInt8.ofNat (z % 128)).toNat = z % 128 by simp; omega, wrapB _ (by omega) (by omega)]
theorem u8_hi (z : Nat) : D.val (.int .u8 (IntKind.u8.wrap (IntKind.i64.wrap (((z % 128 : Nat) : Int) + 128)))) = byD (UInt8.ofNat (128 + z % 128)) := by
  rw [byD, show (UInt8.ofNat (128 + z % 128)).toNat = 128 + z % 128 by simp; omega, wrapI _ (by omega) (by omega), wrapB _ (by omega) (by omega)]
  congr 2; omega
end Go.Pv
