/- What each operation comes to. -/
import Derived.Test.YtpedcchnhjffpaaGreatPvBase
import Derived.Laws.AppendOwnNone
import Derived.DataElems
import Derived.ShutString
import Derived.Laws.BytesString
namespace Go.Pv
open Go.RowKit

/-! ### A call's state -/
structure Env where
  t : Tr D
  n : Nat
def Env.get (E : Env) (i : Nat) : D := match E.t.get i with
  | some d => if i < E.n then d else .undef
  | none => if i < E.n then .val undef else .undef
def Env.set (E : Env) (i : Nat) (d : D) : Env := { E with t := Tr.set (some d) (i + 1) E.t i }
theorem Env.set_n (E : Env) (i : Nat) (d : D) : (E.set i d).n = E.n := rfl
theorem Env.get_set (E : Env) (i j : Nat) (d : D) : (E.set i d).get j = if j = i then (if i < E.n then d else .undef) else E.get j := by
  unfold Env.get Env.set
  split
  · rename_i x hx
    by_cases e : j = i
    · subst e
      rw [Tr.get_set_same _ _ _ _ (by omega)] at hx
      cases hx
      simp
    · rw [Tr.get_set_ne _ _ _ _ _ (by omega) e] at hx
      simp [hx, e]
  · rename_i hx
    by_cases e : j = i
    · subst e
      rw [Tr.get_set_same _ _ _ _ (by omega)] at hx
      cases hx
    · rw [Tr.get_set_ne _ _ _ _ _ (by omega) e] at hx
      simp [hx, e]
theorem Env.get_out (E : Env) (i : Nat) (h : E.n ≤ i) : E.get i = .undef := by
  unfold Env.get
  split <;> rw [if_neg (by omega)]
/-- What is kept of a call: its slots, the heap, and the calls that are put off. -/
structure PSt where
  env : Env
  H : Heap
  df : List (FuncId × List D)

def ofVal : Value → D
  | .slice none 0 0 => .slice 1 0 []
  | v => .val v
def ofZero : Value → D
  | .agg cs => .agg (cs.toList.map ofVal)
  | v => ofVal v
def PSt.ev (st : PSt) : Operand → D
  | .tmp t => st.env.get t
  | .const v => ofZero v
  | .global g => .val (.pointer (some ⟨g, 0, none⟩))
  | .func f => .val (.func (.func f) #[] #[])
def PSt.put (st : PSt) (dst : Option Tmp) (d : D) : PSt :=
  match dst with
  | some t => { st with env := st.env.set t d }
  | none => st

structure EnvRep (P : Program) (Γ : Gh) (E : Env) (tmps : Array Value) : Prop where
  size : E.n = tmps.size
  rep : ∀ t, t < tmps.size → Rep P Γ (E.get t) (tmps.getD t undef)

theorem EnvRep.mono {P : Program} {Γ Γ' : Gh} {env : Env} {tmps : Array Value} (h : EnvRep P Γ env tmps) (hle : Γ.le Γ') : EnvRep P Γ' env tmps :=
  ⟨h.size, fun t ht => (h.rep t ht).mono hle⟩

theorem Rep.ofVal (P : Program) (Γ : Gh) (v : Value) : Rep P Γ (Pv.ofVal v) v := by
  unfold Pv.ofVal
  split
  · exact .nil 0
  · exact .val _
theorem Rep.ofZero (P : Program) (Γ : Gh) (v : Value) : Rep P Γ (Pv.ofZero v) v := by
  unfold Pv.ofZero
  split
  · rename_i cs
    have h := Rep.agg (P := P) (Γ := Γ) (cs.toList.map Pv.ofVal) cs.toList (by simp) (fun i d v hd hv => by
      simp only [List.getElem?_map, hv, Option.map_some, Option.some.injEq] at hd
      subst hd
      exact Rep.ofVal P Γ v)
    simpa using h
  · exact Rep.ofVal P Γ _

theorem EnvRep.ev {P : Program} {Γ : Gh} {st : PSt} {a : Act} (h : EnvRep P Γ st.env a.tmps) (x : Operand) : Rep P Γ (st.ev x) (a.eval x) := by
  cases x with
  | tmp t =>
    rcases Nat.lt_or_ge t a.tmps.size with ht | ht
    · exact h.rep t ht
    · show Rep P Γ (st.env.get t) _
      rw [st.env.get_out t (by rw [h.size]; exact ht)]; exact .undef _
  | const v => exact Rep.ofZero P Γ v
  | global g => exact .val _
  | func f => exact .val _

theorem EnvRep.put {P : Program} {Γ : Gh} {st : PSt} {a : Act} (h : EnvRep P Γ st.env a.tmps) {dst : Option Tmp} {d : D} {v : Value} (hr : Rep P Γ d v) :
    EnvRep P Γ (st.put dst d).env (a.put dst v).tmps := by
  cases dst with
  | none => exact h
  | some t =>
    refine ⟨by simpa [PSt.put, Act.put, Env.set_n] using h.size, fun i hi => ?_⟩
    simp only [Act.put, Array.size_setIfInBounds] at hi
    simp only [PSt.put, Act.put, Env.get_set]
    by_cases e : i = t
    · subst e; simpa [h.size, hi] using hr
    · have e' : t ≠ i := fun x => e x.symm
      have := h.rep i hi
      simpa [e, Array.getElem?_setIfInBounds_ne e'] using this

/-! ### Small facts on flat rows -/
theorem flat_nil : flat [] = [] := rfl
theorem flat_cons (d : D) (l : List D) : flat (d :: l) = cellsD d ++ flat l := by simp [flat]
theorem flat_append (l m : List D) : flat (l ++ m) = flat l ++ flat m := by simp [flat]
theorem flat_length {P : Program} {e : TypeId} : ∀ {l : List D}, (∀ d ∈ l, (cellsD d).length = szOf P e) → (flat l).length = l.length * szOf P e
  | [], _ => by simp [flat]
  | d :: l, h => by
    rw [flat_cons, List.length_append, h d (by simp), flat_length (fun x hx => h x (by simp [hx])), List.length_cons, Nat.add_mul, Nat.one_mul, Nat.add_comm]
theorem flat_get {P : Program} {e : TypeId} : ∀ {l : List D} (_ : ∀ d ∈ l, (cellsD d).length = szOf P e) (i k : Nat) (d : D), l[i]? = some d → k < szOf P e → (flat l)[i * szOf P e + k]? = (cellsD d)[k]?
  | [], _, i, k, d, h, _ => by simp at h
  | x :: l, hs, 0, k, d, h, hk => by
    simp at h; subst h
    rw [flat_cons, Nat.zero_mul, Nat.zero_add, List.getElem?_append_left (by rw [hs x (by simp)]; exact hk)]
  | x :: l, hs, i + 1, k, d, h, hk => by
    simp at h
    have hx := hs x (by simp)
    rw [flat_cons, List.getElem?_append_right (by rw [hx, Nat.add_mul]; omega), hx, Nat.add_mul, Nat.one_mul,
      show i * szOf P e + szOf P e + k - szOf P e = i * szOf P e + k by omega]
    exact flat_get (fun y hy => hs y (by simp [hy])) i k d h hk

theorem rep_val {P : Program} {Γ : Gh} {u v : Value} (h : Rep P Γ (.val u) v) : v = u := by cases h; rfl

/-! ### What an operation comes to -/
def isAggT : TypeDesc → Bool
  | .struct _ | .array _ _ => true
  | _ => false
/-- The cells at an offset, as a value of type t. -/
def ePart (P : Program) (t : TypeId) (cs : List D) (off : Nat) : Option D :=
  match P.underlying t with
  | some k => if isAggT k = true then (if off + szOf P t ≤ cs.length then some (.agg ((cs.drop off).take (szOf P t))) else none) else cs[off]?
  | none => none

def eInt (op : BinOp) (k : IntKind) (a b : Int) : Option D :=
  match op with
  | .add => some (.val (.int k (k.wrap (a + b))))
  | .sub => some (.val (.int k (k.wrap (a - b))))
  | .mul => some (.val (.int k (k.wrap (a * b))))
  | .quo => if b ≠ 0 then some (.val (.int k (k.wrap (a.tdiv b)))) else none
  | .rem => if b ≠ 0 then some (.val (.int k (a.tmod b))) else none
  | .and => some (.val (.int k (k.wrap (BitVec.ofInt k.bits a &&& BitVec.ofInt k.bits b).toNat)))
  | .or => some (.val (.int k (k.wrap (BitVec.ofInt k.bits a ||| BitVec.ofInt k.bits b).toNat)))
  | .xor => some (.val (.int k (k.wrap (BitVec.ofInt k.bits a ^^^ BitVec.ofInt k.bits b).toNat)))
  | .andNot => some (.val (.int k (k.wrap (BitVec.ofInt k.bits a &&& ~~~ BitVec.ofInt k.bits b).toNat)))
  | .eql => some (.val (.bool (decide (a = b))))
  | .neq => some (.val (.bool (!decide (a = b))))
  | .lss => some (.val (.bool (decide (a < b))))
  | .leq => some (.val (.bool (decide (a ≤ b))))
  | .gtr => some (.val (.bool (decide (b < a))))
  | .geq => some (.val (.bool (decide (b ≤ a))))
  | _ => none
def eStr (op : BinOp) (a b : ByteArray) : Option D :=
  match op with
  | .add => if a.data.toList.length + b.data.toList.length ≤ 9223372036854775807 then some (.val (.string ⟨(a.data.toList ++ b.data.toList).toArray⟩)) else none
  | .eql => some (.val (.bool (decide (a.data.toList = b.data.toList))))
  | .neq => some (.val (.bool (!decide (a.data.toList = b.data.toList))))
  | .lss => some (.val (.bool (Op.bytesLess a.data.toList b.data.toList)))
  | .leq => some (.val (.bool (Op.bytesLess a.data.toList b.data.toList || decide (a.data.toList = b.data.toList))))
  | .gtr => some (.val (.bool (!(Op.bytesLess a.data.toList b.data.toList || decide (a.data.toList = b.data.toList)))))
  | .geq => some (.val (.bool (!Op.bytesLess a.data.toList b.data.toList)))
  | _ => none
/-- Something held against nil: of an empty slice that came in nothing is known. -/
def isNilD : D → Option Bool
  | .slice g _ l => if g = 1 then some true else if g = 3 then some false else match l with
    | [] => none
    | _ :: _ => some false
  | .arr .. | .row .. => some false
  | _ => none
def isNilP : D → Option Bool
  | .ptr .. | .rptr .. | .obj .. => some false
  | .val (.pointer a) => some a.isNone
  | _ => none
def isNilM : D → Option Bool
  | .mp _ => some false
  | .val (.map a) => some a.isNone
  | _ => none
def isNilI : D → Option Bool
  | .ifc .. | .val (.iface ..) => some false
  | .val .nilIface => some true
  | _ => none
def isNilF : D → Option Bool
  | .clo .. | .val (.func ..) => some false
  | .val .nilFunc => some true
  | _ => none
/-- The fields of a struct that is compared cell by cell. -/
inductive FK where
  | s | b | i
def fieldKind (P : Program) (x : Field × Nat) : Option FK :=
  if x.1.offset = x.2 ∧ x.1.name ≠ "_" then match P.underlying x.1.type with
    | some .string => some .s
    | some .bool => some .b
    | some (.int _) => some .i
    | _ => none
  else none
/-- A struct type whose fields are all whole numbers, bools and strings. -/
def flatKinds (P : Program) (t : TypeId) : Option (List FK) :=
  match P.underlying t with
  | some (.struct fs) => if P.stoodInHeld t = false ∧ P.eqGuardType P.depth t = false then fs.toList.zipIdx.mapM (fieldKind P) else none
  | _ => none
def eqCell : FK → D → D → Option Bool
  | .s, .val (.string a), .val (.string b) => some (decide (a.data.toList = b.data.toList))
  | .i, .val (.int k a), .val (.int k' b) => if k = k' then some (decide (a = b)) else none
  | .b, .val (.bool a), .val (.bool b) => some (a == b)
  | _, _, _ => none
def eqCells : List FK → List D → List D → Option Bool
  | [], [], [] => some true
  | k :: ks, x :: xs, y :: ys => match eqCell k x y with
    | some a => match eqCells ks xs ys with
      | some b => some (a && b)
      | none => none
    | none => none
  | _, _, _ => none
def eEq (op : BinOp) (r : Option Bool) : Option D :=
  match op, r with
  | .eql, some b => some (.val (.bool b))
  | .neq, some b => some (.val (.bool (!b)))
  | _, _ => none
/-- The kinds of types that are held against nil. -/
inductive NK where
  | sl | pt | mp | ifc | fn | no
def nilKind : Option TypeDesc → NK
  | some (.slice _) => .sl
  | some (.pointer _) => .pt
  | some (.map _ _) => .mp
  | some (.interface _) => .ifc
  | some (.func _ _ _) => .fn
  | _ => .no
def isNilOf (k : NK) (x y : D) : Option Bool :=
  match k, y with
  | .sl, .slice 1 _ [] => isNilD x
  | .pt, .val (.pointer none) => isNilP x
  | .mp, .val (.map none) => isNilM x
  | .ifc, .val .nilIface => isNilI x
  | .fn, .val .nilFunc => isNilF x
  | _, _ => none
def eFloat (op : BinOp) (k : FloatKind) (a b : Nat) : Option D :=
  match op with
  | .eql => some (.val (.bool (Op.floatEq k a b)))
  | .neq => some (.val (.bool (!Op.floatEq k a b)))
  | .lss => some (.val (.bool (k.format.order a b == some .lt)))
  | .gtr => some (.val (.bool (k.format.order a b == some .gt)))
  | _ => none
def eBin (P : Program) (op : BinOp) (t : TypeId) (x y : D) : Option D :=
  match x, y with
  | .val (.int k a), .val (.int k' b) =>
    match op with
    | .shl => if 0 ≤ b then some (.val (.int k (k.wrap (a * 2 ^ (min b.toNat k.bits))))) else none
    | .shr => if 0 ≤ b then some (.val (.int k (a.fdiv (2 ^ (min b.toNat k.bits))))) else none
    | _ => if k = k' then eInt op k a b else none
  | .val (.float k a), .val (.float k' b) => if k = k' then eFloat op k a b else none
  | .val (.string a), .val (.string b) => eStr op a b
  | .val (.bool a), .val (.bool b) =>
    match P.underlying t with
    | some .bool => eEq op (some (a == b))
    | _ => none
  | .agg xs, .agg ys => match flatKinds P t with
    | some ks => eEq op (eqCells ks xs ys)
    | none => none
  | .rptr i e k c, .rptr i' e' k' c' => match P.underlying t with
    | some (.pointer e2) => if i = i' ∧ e = e' ∧ k = k' ∧ c = c' ∧ szOf P e2 ≠ 0 then eEq op (some true) else none
    | _ => none
  | x, y => eEq op (isNilOf (nilKind (P.underlying t)) x y)
def eUn (op : UnOp) (x : D) : Option D :=
  match op, x with
  | .neg, .val (.int k n) => some (.val (.int k (k.wrap (0 - n))))
  | .not, .val (.bool b) => some (.val (.bool (!b)))
  | _, _ => none
def byteAt (s : List UInt8) (i : Nat) : Int := ((s.getD i 0).toNat : Int)
def eIndex (P : Program) (t : TypeId) (x i : D) : Option D :=
  match P.underlying t, x, i with
  | some .string, .val (.string s), .val (.int _ i) => if 0 ≤ i ∧ i < s.data.toList.length then some (.val (.int .u8 (byteAt s.data.toList i.toNat))) else none
  | some (.array n e), .agg cs, .val (.int _ i) => if 0 < szOf P e ∧ 0 ≤ i ∧ i < n then ePart P e cs (i.toNat * szOf P e) else none
  | _, _, _ => none
def eField (P : Program) (t : TypeId) (x : D) (f : Nat) : Option D :=
  match x, P.underlying t with
  | .agg cs, some (.struct fs) => match fs[f]? with
    | some fd => ePart P fd.type cs fd.offset
    | none => none
  | _, _ => none
def eFieldAddr (P : Program) (t : TypeId) (x : D) (f : Nat) : Option D :=
  match P.underlying t with
  | some (.struct fs) => match fs[f]? with
    | some fd => if 0 < szOf P fd.type then match x with
      | .ptr i off => some (.ptr i (off + fd.offset))
      | .rptr i e k c => some (.rptr i e k (c + fd.offset))
      | .obj cs off => some (.obj cs (off + fd.offset))
      | _ => none else none
    | none => none
  | _ => none
def eIndexAddr (P : Program) (t : TypeId) (x i : D) : Option D :=
  match i with
  | .val (.int _ i) =>
    match P.underlying t, x with
    | some (.slice e), .slice _ e' l => if e = e' ∧ 0 < szOf P e ∧ 0 ≤ i ∧ i < l.length then some (.obj (cellsD (l.getD i.toNat .undef)) 0) else none
    | some (.slice e), .arr b e' off len => if e = e' ∧ 0 < szOf P e ∧ 0 ≤ i ∧ i < len then some (.ptr b (off + i.toNat * szOf P e)) else none
    | some (.slice e), .row b e' off len => if e = e' ∧ 0 < szOf P e ∧ 0 ≤ i ∧ i < len then some (.rptr b e (off + i.toNat) 0) else none
    | some (.array n e), .ptr b off => if 0 < szOf P e ∧ 0 ≤ i ∧ i < n then some (.ptr b (off + i.toNat * szOf P e)) else none
    | some (.array n e), .rptr b e' k c => if 0 < szOf P e ∧ 0 ≤ i ∧ i < n then some (.rptr b e' k (c + i.toNat * szOf P e)) else none
    | some (.array n e), .obj cs off => if 0 < szOf P e ∧ 0 ≤ i ∧ i < n then some (.obj cs (off + i.toNat * szOf P e)) else none
    | _, _ => none
  | _ => none
def eLoad (P : Program) (t : TypeId) (x : D) (H : Heap) : Option D :=
  match x with
  | .obj cs off => ePart P t cs off
  | .ptr i off => match H.get i with
    | some (.cells cs) => ePart P t cs off
    | _ => none
  | .rptr i e k c => match H.get i with
    | some (.row e' l) => if e = e' then match l[k]? with
      | some d => ePart P t (cellsD d) c
      | none => none else none
    | _ => none
  | .val (.pointer (some ⟨g, off, none⟩)) => match H.G g with
    | some cs => ePart P t cs off
    | none => none
  | _ => none
def eExtract (x : D) (i : Nat) : Option D :=
  match x with
  | .tup vs => vs[i]?
  | _ => none
def eBounds (lo hi : Option D) (len : Nat) : Option (Nat × Nat) :=
  match lo, hi with
  | none, none => some (0, len)
  | some (.val (.int _ l)), none => if 0 ≤ l ∧ l ≤ len then some (l.toNat, len) else none
  | none, some (.val (.int _ h)) => if 0 ≤ h ∧ h ≤ len then some (0, h.toNat) else none
  | some (.val (.int _ l)), some (.val (.int _ h)) => if 0 ≤ l ∧ l ≤ h ∧ h ≤ len then some (l.toNat, h.toNat) else none
  | _, _ => none
/-- A part of an array that may be written to; an empty part is of none. -/
def subArr (i : Nat) (e : TypeId) (off sz a b : Nat) : D := if a < b then .arr i e (off + a * sz) (b - a) else .slice 3 e []
def subRow (i : Nat) (e : TypeId) (off a b : Nat) : D := if a < b then .row i e (off + a) (b - a) else if a = 0 then .row i e off 0 else .slice 3 e []
def eSlice (P : Program) (t : TypeId) (x : D) (lo hi : Option D) : Option D :=
  match P.underlying t, x with
  | some .string, .val (.string s) => match eBounds lo hi s.data.toList.length with
    | some (l, h) => some (.val (.string ⟨((s.data.toList.take h).drop l).toArray⟩))
    | none => none
  | some (.slice e), .slice g e' l => if 0 < szOf P e ∧ (e = e' ∨ l = []) then match eBounds lo hi l.length with
    | some (a, b) => some (.slice 0 e ((l.take b).drop a))
    | none => none else none
  | some (.slice e), .arr i e' off len => if 0 < szOf P e ∧ e = e' then match eBounds lo hi len with
    | some (a, b) => some (subArr i e off (szOf P e) a b)
    | none => none else none
  | some (.slice e), .row i e' off len => if 0 < szOf P e ∧ e = e' then match eBounds lo hi len with
    | some (a, b) => some (subRow i e off a b)
    | none => none else none
  | some (.pointer r), .ptr i off => match P.underlying r with
    | some (.array n e) => if 0 < szOf P e ∧ n ≤ maxLen then match eBounds lo hi n with
      | some (a, b) => some (subArr i e off (szOf P e) a b)
      | none => none else none
    | _ => none
  | some (.array n e), .ptr i off => if 0 < szOf P e ∧ n ≤ maxLen then match eBounds lo hi n with
    | some (a, b) => some (subArr i e off (szOf P e) a b)
    | none => none else none
  | _, _ => none
/-- A part with no room behind it. -/
def eSlice3 (P : Program) (t : TypeId) (x : D) (lo hi : Option D) (mx : D) : Option D :=
  match P.underlying t, hi, mx with
  | some (.slice e), some (.val (.int _ h)), .val (.int _ m) => if 0 < szOf P e ∧ h = m then match x with
    | .slice _ e' l => if e = e' ∨ l = [] then match eBounds lo hi l.length with
      | some (a, b) => some (.slice 2 e ((l.take b).drop a))
      | none => none else none
    | .row _ _ _ len => match eBounds lo hi len with
      | some (a, b) => if a = b then some (.slice 2 e []) else none
      | none => none
    | .arr _ _ _ len => match eBounds lo hi len with
      | some (a, b) => if a = b then some (.slice 2 e []) else none
      | none => none
    | _ => none else none
  | _, _, _ => none
def byD (b : UInt8) : D := .val (.int .u8 b.toNat)
def isByteD : D → Bool
  | .val (.int .u8 _) => true
  | _ => false
def toByteD : D → UInt8
  | .val (.int _ n) => UInt8.ofNat n.toNat
  | _ => 0
/-- The elements of a row that is read, of whatever kind. -/
def elems (H : Heap) (e : TypeId) (x : D) : Option (List D) :=
  match x with
  | .slice _ e' l => if e = e' ∨ l = [] then some l else none
  | .row i e' off len => match H.get i with
    | some (.row e2 l) => if e = e' ∧ e = e2 ∧ off + len ≤ l.length then some ((l.drop off).take len) else none
    | _ => none
  | _ => none
def eToStr (l : List D) : Option D := if l.all isByteD = true then some (.val (.string ⟨(l.map toByteD).toArray⟩)) else none
def eConvert (P : Program) (src dst : TypeId) (x : D) (H : Heap) : Option (D × Heap) :=
  match P.underlying src, P.underlying dst, x with
  | some _, some (.int k), .val (.int _ n) => some (.val (.int k (k.wrap n)), H)
  | some _, some .string, .val (.string s) => some (.val (.string s), H)
  | some _, some .string, .val (.int _ n) => some (.val (.string (Utf8.encode n)), H)
  | some (.slice e), some .string, .arr i e' off len => match P.underlying e, H.get i with
    | some (.int .u8), some (.cells cs) => if off + len ≤ cs.length then match eToStr ((cs.drop off).take len) with
      | some d => some (d, H)
      | none => none else none
    | _, _ => none
  | some (.slice e), some .string, x => match P.underlying e, elems H e x with
    | some (.int .u8), some l => if szOf P e = 1 then match eToStr l with
      | some d => some (d, H)
      | none => none else none
    | _, _ => none
  | some _, some (.slice e), .val (.string s) => match P.underlying e with
    | some (.int .u8) => if szOf P e = 1 ∧ s.data.toList.length ≤ maxLen then some (.row H.nx e 0 s.data.toList.length, H.new (.row e (s.data.toList.map byD))) else none
    | _ => none
  | some (.slice _), some (.slice e), .row i e' off len => if src = dst then match P.underlying e, H.get i with
    | some (.int .u8), some (.row _ _) => some (.row i e' off len, H)
    | _, _ => none else none
  | some (.pointer t), some .unsafePointer, .rptr i e k c => match H.get i with
    | some (.row e' l) => if e = e' ∧ k = 0 ∧ c = 0 ∧ 0 < l.length ∧ 0 < szOf P e ∧ szOf P t ≠ 0 then some (.rptr i e 0 0, H) else none
    | _ => none
  | some .unsafePointer, some (.pointer u), .rptr i e k c => match H.get i with
    | some (.row e' l) => if e = e' ∧ k = 0 ∧ c = 0 ∧ 0 < l.length ∧ 0 < szOf P e ∧ u = e then some (.rptr i e 0 0, H) else none
    | _ => none
  | _, _, _ => none
def zeroD (P : Program) (t : TypeId) : Option (List D) :=
  match P.info? t with
  | some i => match i.zero with
    | some v => some (v.cells.toList.map ofVal)
    | none => none
  | none => none
def eMakeInterface (P : Program) (t : TypeId) (x : D) : Option D :=
  match P.underlying t with
  | some (.interface _) => none
  | some _ => match x with
    | .val v => some (.val (.iface t v))
    | d => some (.ifc t d)
  | none => none
def eNilCheck (x : D) : Option D :=
  match x with
  | .ptr .. | .rptr .. | .obj .. | .val (.func (.func _) _ _) | .clo (.func _) _ _ | .ifc .. | .val (.iface ..) => some x
  | _ => none
/-- Cells that may lie in memory: none of them a struct, an array or a tuple. -/
def oneD : D → Bool
  | .agg _ | .tup _ | .undef => false
  | .val v => v.oneCell'
  | _ => true
def okPart : D → Bool
  | .agg cs => cs.all oneD
  | d => oneD d
/-- The rows onto which something may be appended: what they hold, and what becomes of the heap. -/
def onto (H : Heap) (e : TypeId) (s : D) : Option (List D × Heap) :=
  match s with
  | .slice g e' l => if (g = 1 ∨ g = 2) ∧ (e = e' ∨ l = []) then some (l, H) else none
  | .row i e' off len => match H.get i with
    | some (.row e2 l) => if e = e' ∧ e = e2 ∧ off + len ≤ l.length then some ((l.drop off).take len, H.put i none) else none
    | _ => none
  | _ => none
def isSliceD : D → Bool
  | .slice .. | .arr .. | .row .. => true
  | _ => false
/-- What is appended. -/
def news (P : Program) (H : Heap) (e u : TypeId) (x : D) : Option (List D) :=
  match P.underlying u with
  | some .string => match x, P.underlying e with
    | .val (.string s), some (.int .u8) => if szOf P e = 1 then some (s.data.toList.map byD) else none
    | _, _ => none
  | some (.slice _) => match x with
    | .arr i e' off len => match H.get i with
      | some (.cells cs) => if e = e' ∧ szOf P e = 1 ∧ off + len ≤ cs.length ∧ ((cs.drop off).take len).all oneD = true then some ((cs.drop off).take len) else none
      | _ => none
    | x => elems H e x
  | _ => none
def eAppend (P : Program) (t u : TypeId) (s x : D) (H : Heap) : Option (D × Heap) :=
  match P.underlying t with
  | some (.slice e) => match P.info? e with
    | some inf => match inf.zero, news P H e u x with
      | some z, some m =>
        if 0 < inf.size ∧ 0 < inf.bytes ∧ z.cells.size = inf.size ∧ isSliceD s = true then
          if m.isEmpty then some (s, H) else match onto H e s with
            | some (l, H') => if (l.length + m.length) * inf.bytes ≤ 140737488355328 then some (.row H.nx e 0 (l.length + m.length), H'.new (.row e (l ++ m))) else none
            | none => none
        else none
      | _, _ => none
    | none => none
  | _ => none
/-- Cells from an offset on are written. -/
def updD (cs : List D) (off : Nat) : List D → List D
  | [] => cs
  | d :: ds => updD (cs.set off d) (off + 1) ds
def fillD (place : Nat → Option (Nat × Nat)) (cells : List D) : List (Nat × D) → Option (List D)
  | [] => some cells
  | (i, d) :: rest =>
    match place i with
    | none => none
    | some (off, size) => if (cellsD d).length ≠ size ∨ off + (cellsD d).length > cells.length ∨ okPart d = false then none else fillD place (updD cells off (cellsD d)) rest
/-- Where a struct's fields lie, and how many cells each has. -/
def placesOf (P : Program) (t : TypeId) : Option (List (Nat × Nat)) :=
  match P.underlying t with
  | some (.struct fs) => if fs.toList.all (fun f => (P.info? f.type).isSome) then some (fs.toList.map fun f => (f.offset, szOf P f.type)) else none
  | _ => none
def eBuild (P : Program) (t : TypeId) (parts : List (Nat × D)) : Option D :=
  match zeroD P t with
  | some z => if z.all oneD = true then match placesOf P t with
    | some pl => match fillD (fun i => pl[i]?) z parts with
      | some cs => some (.agg cs)
      | none => none
    | none => match P.underlying t with
      | some (.array _ e) => if 0 < szOf P e then match fillD (fun i => some (i * szOf P e, szOf P e)) z parts with
        | some cs => some (.agg cs)
        | none => none else none
      | _ => none
    else none
  | none => none
def eBuildSlice (P : Program) (t : TypeId) (n : Nat) (parts : List (Nat × D)) (H : Heap) : Option (D × Heap) :=
  match P.underlying t with
  | some (.slice e) => if 0 < szOf P e ∧ n * szOf P e ≤ 16777216 ∧ parts.map (·.1) = List.range n ∧ (zeroD P e).isSome = true ∧
    parts.all (fun p => okPart p.2 && (cellsD p.2).length == szOf P e) = true then some (.row H.nx e 0 n, H.new (.row e (parts.map (·.2)))) else none
  | _ => none
/-- A zero element, as a value. -/
def zeroElem (P : Program) (e : TypeId) : Option D :=
  match P.info? e with
  | some i => match i.zero with
    | some v => if v.cells.size = i.size ∧ v.cells.toList.all (fun c => c.oneCell') = true then some (ofZero v) else none
    | none => none
  | none => none
/-- Elements of a row of the call's own (of one cell each) become zero. -/
def eClear (P : Program) (t : TypeId) (x : D) (H : Heap) : Option Heap :=
  match P.underlying t, x with
  | some (.slice _), .slice _ _ [] => some H
  | some (.slice e), .row i e' off len => match H.get i with
    | some (.row e2 l) => if e = e' ∧ e = e2 ∧ off + len ≤ l.length ∧ szOf P e = 1 then match zeroElem P e with
      | some z => if oneD z = true then (if len = 0 then some H else some (H.put i (some (.row e (l.take off ++ List.replicate len z ++ l.drop (off + len)))))) else none
      | none => none else none
    | _ => none
  | _, _ => none
def eMakeSlice (P : Program) (t : TypeId) (n c : D) (H : Heap) : Option (D × Heap) :=
  match P.underlying t, n, c with
  | some (.slice e), .val (.int _ n), .val (.int _ c) => match P.info? e, zeroElem P e with
    | some inf, some z => if 0 < inf.size ∧ 0 ≤ n ∧ n ≤ c ∧ inf.bytes * c ≤ 281474976710656 ∧ c ≤ 9223372036854775807 then
        some (.row H.nx e 0 n.toNat, H.new (.row e (List.replicate n.toNat z))) else none
    | _, _ => none
  | _, _, _ => none
/-- A struct of a pointer to itself and a slice: strings.Builder. -/
def isBld (P : Program) (t : TypeId) : Bool :=
  match P.underlying t with
  | some (.struct fs) => match fs.toList with
    | [a, b] => match P.underlying a.type, P.underlying b.type with
      | some (.pointer u), some (.slice _) => u == t
      | _, _ => false
    | _ => false
  | _ => false
def eAlloc (P : Program) (t : TypeId) (H : Heap) : Option (D × Heap) :=
  match zeroElem P t with
  | some z => if isBld P t = true then some (.rptr H.nx t 0 0, H.new (.row t [z])) else some (.ptr H.nx 0, H.new (.cells (cellsD z)))
  | none => none
def eBox (d : D) (H : Heap) : Option (D × Heap) := if okPart d = true then some (.ptr H.nx 0, H.new (.cells (cellsD d))) else none
/-- An element of which some cells are written. -/
def setIn (d : D) (c : Nat) (ds : List D) : D :=
  match d with
  | .agg cs => .agg (updD cs c ds)
  | d => match updD [d] c ds with
    | [x] => x
    | _ => d
def eStore (P : Program) (t : TypeId) (p d : D) (H : Heap) : Option Heap :=
  match p with
  | .ptr i off => match H.get i with
    | some (.cells cs) => if 0 < szOf P t ∧ okPart d = true ∧ (cellsD d).length = szOf P t ∧ off + szOf P t ≤ cs.length then some (H.put i (some (.cells (updD cs off (cellsD d))))) else none
    | _ => none
  | .rptr i e k c => match H.get i with
    | some (.row e' l) => match l[k]? with
      | some x => if e = e' ∧ 0 < szOf P t ∧ okPart d = true ∧ (cellsD d).length = szOf P t ∧ c + szOf P t ≤ (cellsD x).length then some (H.put i (some (.row e (l.set k (setIn x c (cellsD d)))))) else none
      | none => none
    | _ => none
  | _ => none
def eLen (P : Program) (t : TypeId) (x : D) (H : Heap) : Option D :=
  match P.underlying t, x with
  | some .string, .val (.string s) => some (.val (.int .i64 s.data.toList.length))
  | some (.slice _), .slice _ _ l => some (.val (.int .i64 l.length))
  | some (.slice _), .arr _ _ _ n => some (.val (.int .i64 n))
  | some (.slice _), .row _ _ _ n => some (.val (.int .i64 n))
  | some (.array n _), _ => some (.val (.int .i64 n))
  | some (.map _ _), .val (.map none) => some (.val (.int .i64 0))
  | some (.map _ _), .mp i => match H.get i with
    | some (.map es) => some (.val (.int .i64 es.length))
    | _ => none
  | _, _ => none
def eMinMax (mx : Bool) : Nat → List D → Option D
  | 0, _ => none
  | _ + 1, [] => none
  | _ + 1, [x] => some x
  | n + 1, .val (.int k a) :: .val (.int k' b) :: rest => if k = k' then eMinMax mx n (.val (.int k (if mx then (if a < b then b else a) else (if b < a then b else a))) :: rest) else none
  | _, _ => none
def ePick (c a b : D) : Option D :=
  match c with
  | .val (.bool t) => some (if t then a else b)
  | _ => none

/-! ### Maps -/
/-- A key that is held against others as it stands. -/
def keyOk (d : Option TypeDesc) (k : Value) : Bool :=
  match d, k with
  | some (.int _), .int _ _ | some .string, .string _ | some .bool, .bool _ => true
  | _, _ => false
def sameKey : Value → Value → Bool
  | .int k a, .int k' b => decide (k = k') && a == b
  | .string a, .string b => decide (a.data.toList = b.data.toList)
  | .bool a, .bool b => a == b
  | _, _ => false
def mapFind (k : Value) : List (Value × D) → Option D
  | [] => none
  | e :: es => if sameKey k e.1 then some e.2 else mapFind k es
def mapPut (k : Value) (d : D) : List (Value × D) → List (Value × D)
  | [] => [(k, d)]
  | e :: es => if sameKey k e.1 then (k, d) :: es else e :: mapPut k d es
def mapDel (k : Value) : List (Value × D) → List (Value × D)
  | [] => []
  | e :: es => if sameKey k e.1 then es else e :: mapDel k es
/-- Keys of one kind. -/
def keyKind : Value → Value → Bool
  | .int k _, .int k' _ => decide (k = k')
  | .string _, .string _ | .bool _, .bool _ => true
  | _, _ => false
def mapEnts (H : Heap) : D → Option (List (Value × D))
  | .val (.map none) => some []
  | .mp i => match H.get i with
    | some (.map es) => some es
    | _ => none
  | _ => none
def eLookup (P : Program) (t : TypeId) (m k : D) (ok : Bool) (H : Heap) : Option D :=
  match P.underlying t, k with
  | some (.map kt et), .val kv => match zeroElem P et, mapEnts H m with
    | some z, some es => if keyOk (P.underlying kt) kv = true ∧ es.all (fun e => keyKind kv e.1) = true then
        match mapFind kv es with
        | some d => some (if ok then .tup [d, .val (.bool true)] else d)
        | none => some (if ok then .tup [z, .val (.bool false)] else z)
      else none
    | _, _ => none
  | _, _ => none
def eMapUpdate (P : Program) (t : TypeId) (m k d : D) (H : Heap) : Option Heap :=
  match P.underlying t, k, m with
  | some (.map kt et), .val kv, .mp i => match H.get i with
    | some (.map es) => if keyOk (P.underlying kt) kv = true ∧ es.all (fun e => keyKind kv e.1) = true then some (H.put i (some (.map (mapPut kv d es)))) else none
    | _ => none
  | _, _, _ => none
def eDelete (P : Program) (t : TypeId) (m k : D) (H : Heap) : Option Heap :=
  match P.underlying t, k, m with
  | some (.map kt et), .val kv, .val (.map none) => if keyOk (P.underlying kt) kv = true then some H else none
  | some (.map kt et), .val kv, .mp i => match H.get i with
    | some (.map es) => if keyOk (P.underlying kt) kv = true ∧ es.all (fun e => keyKind kv e.1) = true then some (H.put i (some (.map (mapDel kv es)))) else none
    | _ => none
  | _, _, _ => none

/-! ### Interfaces -/
def ifcOf : D → Option (TypeId × D)
  | .ifc t d => some (t, d)
  | .val (.iface t v) => some (t, ofZero v)
  | _ => none
def eTypeAssert (P : Program) (x : D) (xt t : TypeId) (ok : Bool) : Option D :=
  match P.underlying t with
  | some (.interface want) => match x with
    | .val .nilIface => if ok then (zeroElem P t).map fun z => .tup [z, .val (.bool false)] else none
    | x => match ifcOf x with
      | some (dt, _) => match P.info? dt with
        | some inf => match Instr.missingMethod want inf.methods with
          | none => some (if ok then .tup [x, .val (.bool true)] else x)
          | some _ => if ok then (zeroElem P t).map fun z => .tup [z, .val (.bool false)] else none
        | none => none
      | none => none
  | some _ => match x with
    | .val .nilIface => if ok then (zeroElem P t).map fun z => .tup [z, .val (.bool false)] else none
    | x => match ifcOf x with
      | some (dt, d) => if dt = t then some (if ok then .tup [d, .val (.bool true)] else d) else if ok then (zeroElem P t).map fun z => .tup [z, .val (.bool false)] else none
      | none => none
  | none => none
def guardD (ops : Array Oper) (st : PSt) (j : Nat) : Option (Option Bool) :=
  match (ops[j]?).bind (·.dst) with
  | some t => match st.env.get t with
    | .val (.bool b) => some (some b)
    | .val (.tuple _) => some none
    | _ => none
  | none => some none
end Go.Pv
