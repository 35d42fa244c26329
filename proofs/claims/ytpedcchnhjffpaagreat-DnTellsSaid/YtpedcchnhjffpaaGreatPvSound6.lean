/- A part of the proof: functions of the program, walked, or what operations come to. -/
import Derived.Test.YtpedcchnhjffpaaGreatPvSound5
namespace Go.Pv
open Go.RowKit
/-! ### Bytes and strings that share memory (strings.Builder) -/
def eSliceData (H : Heap) (x : D) : Option D :=
  match x with
  | .slice 1 _ [] => some (.val (.pointer none))
  | .row i e off _ => match H.get i with
    | some (.row e' l) => if e = e' ∧ off < l.length then some (.rptr i e off 0) else none
    | _ => none
  | _ => none
def eUnsafeString (P : Program) (pt : TypeId) (p n : D) (H : Heap) : Option (D × Heap) :=
  match p, n with
  | .val (.pointer none), .val (.int .i64 k) => if k = 0 then some (.val (.string .empty), H) else none
  | .rptr i e k c, .val (.int .i64 n) => match P.underlying pt, H.get i with
    | some (.pointer e2), some (.row e' l) => if e = e' ∧ e2 = e ∧ c = 0 ∧ szOf P e = 1 ∧ 0 < n ∧ k + n.toNat ≤ l.length then match eToStr ((l.drop k).take n.toNat) with
      | some d => some (d, H.put i none)
      | none => none else none
    | _, _ => none
  | _, _ => none
section
variable {P : Program} {base : Prot} {w0 : World} {Γ : Gh} {H : Heap} {w : World}
theorem sliceData_still (h : Rel P base w0 Γ H w) {x d : D} {v : Value} {ts : Array TypeId} {ty : TypeId} (hx : Rep P Γ x v) (hK : eSliceData H x = some d) : Still P Γ w (Builtin.unsafeSliceData_ ts ty #[v]) d := by
  unfold eSliceData at hK
  split at hK
  · cases hK
    obtain rfl := rep_nil hx
    exact ⟨.pointer none, rfl, .val _⟩
  · rename_i i e off len
    split at hK
    · rename_i e' l hi
      split at hK
      · rename_i hc
        obtain ⟨rfl, ho⟩ := hc
        cases hK
        cases hx with
        | row _ _ _ _ y hy hye hc hm =>
          obtain ⟨k0, k1, r1, r2, r3, r4, vs, T, fr, x3, x4, x5, x6⟩ := h.objAt hi hy
          have := Rep.rptr (P := P) (Γ := Γ) i e off 0 y hy hye
          exact ⟨_, Lib.run_unsafeSliceData_row w ts ty _ len _ (by omega), by simpa using this⟩
      · cases hK
    · cases hK
  · cases hK
theorem run_loadBytesI (w : World) : ∀ (xs : List Int) (a : Addr) (acc : ByteArray), (∀ (j : Nat) x, xs[j]? = some x → w.cell? (a.add j) = some (.int .u8 x)) →
    (loadBytes a acc xs.length).run P w = .ok ⟨acc.data ++ (xs.map fun n => n.toNat.toUInt8).toArray⟩ w
  | [], a, acc, _ => by simp [loadBytes]
  | x :: l, a, acc, h => by
    have h0 : w.cell? a = some (.int .u8 x) := by
      have := h 0 x rfl
      exact this
    have ih := run_loadBytesI w l (a.add 1) (acc.push x.toNat.toUInt8) (fun j y hj => by
      rw [Addr.add_add, Nat.add_comm 1 j]
      exact h (j + 1) y hj)
    simp only [List.length_cons, loadBytes, Sem.run_bind]
    rw [show (load a).run P w = .ok (.int .u8 x) w from by rw [load, Sem.run]; simp [h0]]
    simp only [Result.andThen_ok, ih]
    simp [ByteArray.push]
theorem unsafeString_gives (h : Rel P base w0 Γ H w) {pt it ty : TypeId} {p n d : D} {vp vn : Value} {H' : Heap} (hp : Rep P Γ p vp) (hn : Rep P Γ n vn) (hK : eUnsafeString P pt p n H = some (d, H')) :
    Gives P base w0 Γ w (Builtin.unsafeString_ #[pt, it] ty #[vp, vn]) d H' := by
  unfold eUnsafeString at hK
  split at hK
  · split at hK
    · rename_i hk
      subst hk
      cases hK
      obtain rfl := rep_val hp
      obtain rfl := rep_int hn
      exact ⟨_, w, Γ, Lib.run_unsafeString_none w pt it ty none, .refl Γ, h, .val _⟩
    · cases hK
  · rename_i i e k c n
    split at hK
    · rename_i e2 e' l hu hi
      split at hK
      · rename_i hc
        obtain ⟨rfl, rfl, rfl, hsz, hn0, hlen⟩ := hc
        split at hK
        · rename_i d' hd
          cases hK
          obtain rfl := rep_int hn
          cases hp with
          | rptr _ _ _ _ y hy hye =>
            obtain ⟨k0, k1, r1, r2, r3, r4, vs, T, fr, x3, x4, ⟨x51, x52, x5⟩, x6⟩ := h.objAt hi hy
            subst x51
            unfold eToStr at hd
            split at hd
            case isFalse => cases hd
            rename_i hb
            cases hd
            have hb' : ∀ d ∈ (l.drop k).take n.toNat, isByteD d = true := fun d hd => List.all_eq_true.1 hb d hd
            let m := (l.drop k).take n.toNat
            have hm : m.length = n.toNat := by show ((l.drop k).take n.toNat).length = _; simp; omega
            have hget : ∀ (j : Nat) d, m[j]? = some d → ∃ v, w.cell? ((⟨y.b, y.o + k * szOf P T + 0, none⟩ : Addr).add j) = some v ∧ Rep P Γ d v := by
              intro j d hd
              have hj : j < n.toNat := by have := (List.getElem?_eq_some_iff.1 hd).1; omega
              have hl : l[k + j]? = some d := by
                have hd' : ((l.drop k).take n.toNat)[j]? = some d := hd
                rw [List.getElem?_take_of_lt hj, List.getElem?_drop] at hd'
                exact hd'
              have hf := flat_get r4 (k + j) 0 d hl (by omega)
              have hby : isByteD d = true := hb' d (List.mem_of_getElem? hd)
              have hc1 : (cellsD d)[0]? = some d := by
                unfold isByteD at hby
                split at hby
                · rfl
                · cases hby
              rw [hc1, hsz] at hf
              obtain ⟨v, hv, hr, _⟩ := x6 _ d hf
              refine ⟨v, ?_, hr⟩
              rw [Addr.add_lit, cell_of_row w y.b _ vs T fr x3, ← hv]
              congr 1
              rw [hsz]; omega
            obtain ⟨us, hus⟩ : ∃ us : List Value, RepAll P Γ m us ∧ ∀ (j : Nat) u, us[j]? = some u → w.cell? ((⟨y.b, y.o + k * szOf P T + 0, none⟩ : Addr).add j) = some u := by
              refine ⟨(List.range m.length).map fun j => ((w.cell? ((⟨y.b, y.o + k * szOf P T + 0, none⟩ : Addr).add j)).getD .nilIface), ⟨by simp, fun j d v hd hv => ?_⟩, fun j u hu => ?_⟩
              · obtain ⟨v', h1, h2⟩ := hget j d hd
                have hj := (List.getElem?_eq_some_iff.1 hd).1
                simp only [List.getElem?_map, List.getElem?_range hj, Option.map_some, h1, Option.getD_some, Option.some.injEq] at hv
                subst hv; exact h2
              · have hj : j < m.length := by have := (List.getElem?_eq_some_iff.1 hu).1; simpa using this
                obtain ⟨v', h1, h2⟩ := hget j m[j] (List.getElem?_eq_getElem hj)
                simp only [List.getElem?_map, List.getElem?_range hj, Option.map_some, h1, Option.getD_some, Option.some.injEq] at hu
                subst hu; exact h1
            obtain ⟨xs, rfl, hstr⟩ := bytes_str m hb' us hus.1
            have hxl : xs.length = n.toNat := by have := hus.1.1; simp at this; omega
            have hlb := run_loadBytesI (P := P) w xs ⟨y.b, y.o + k * szOf P T + 0, none⟩ .empty (fun j x hj => hus.2 j _ (by simp [hj]))
            have hsh : w.shape? y.b = some (T, vs.size) := by unfold World.shape?; rw [x3]
            have hlies := liesAt_self (P := P) (e := T) (count := vs.size / P.cellsOf T) (off := y.o + k * szOf P T + 0) (n := n.toNat) (by rw [cellsOf_sz]; omega) (by rw [cellsOf_sz, hsz, Nat.mod_one]) (by
              rw [cellsOf_sz, x4, hsz]; simp only [Nat.mul_one, Nat.div_one, Nat.add_zero]; omega)
            have hmx : n ≤ IntKind.i64.max := by
              have : IntKind.i64.max = 9223372036854775807 := rfl
              have : maxLen = maxLen := rfl
              have hmm : y.cap ≤ 9223372036854775807 := by unfold maxLen at r2; omega
              omega
            have hnn : ¬ n < 0 := by omega
            have hnz : ¬ n = 0 := by omega
            have hng : ¬ n > IntKind.i64.max := by omega
            rw [hxl] at hlb
            generalize y.o + k * szOf P T + 0 = o at hlb hlies ⊢
            refine ⟨.string (strOfNums xs), w.freeze ⟨y.b, o, none⟩ n.toNat, Γ, ?_, .refl Γ, ?_, ?_⟩
            · have hdef : Builtin.unsafeString_ #[pt, it] ty #[.pointer (some ⟨y.b, o, none⟩), .int .i64 n] =
                (do
                  let n ← asInt (.int .i64 n)
                  if n < 0 then runtimePanic (.error "unsafe.String: len out of range")
                  if n > IntKind.i64.max then unsupported (.unsafePointer "String: a length above the largest int")
                  if n = 0 then pure (.string .empty)
                  else if ← variablesAt ⟨y.b, o, none⟩ (← elemOf pt) n.toNat then do
                    let s ← loadBytes ⟨y.b, o, none⟩ .empty n.toNat
                    freeze ⟨y.b, o, none⟩ n.toNat
                    pure (.string s)
                  else unsupported (.unsafePointer "String: not so many bytes at ptr")) := rfl
              rw [hdef]
              have hemp : (ByteArray.empty.data ++ (xs.map fun n => n.toNat.toUInt8).toArray) = (strOfNums xs).data := by simp [strOfNums, ByteArray.empty, ByteArray.emptyWithCapacity]; rfl
              rw [hemp] at hlb
              simp [asInt, asIntOf, hnn, hnz, hng, variablesAt, hsh, elemOf, run_underlying hu, hlies, hlb]
              have hM : IntKind.i64.max = 9223372036854775807 := rfl
              omega
            · exact (h.kill i).turn (w' := w.freeze ⟨y.b, o, none⟩ n.toNat) y.b (h.killFree hi hy) (h.below.freeze k0 _) (by unfold World.freeze; split <;> simp) (fun q _ hq => by
                unfold World.freeze
                split
                · rfl
                · simp only [Array.getElem?_modify]
                  rw [if_neg (fun e => hq e.symm)])
            · rw [hstr]; exact .val _
        · cases hK
      · cases hK
    · cases hK
  · cases hK
end
end Go.Pv
