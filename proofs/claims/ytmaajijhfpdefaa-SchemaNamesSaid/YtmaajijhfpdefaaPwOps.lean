/- What each operation comes to on values without addresses. -/
import Derived.Test.YtmaajijhfpdefaaPwBase
import Derived.Laws.AppendOwnNone
import Derived.DataElems
import Derived.ShutString
import Derived.Laws.BytesString
namespace Go.Pw
open Go.RowKit

/-! ### A call's state -/
structure PSt where
  env : Nat → D
  H : Heap

def ofVal : Value → D
  | .slice none 0 0 => .slice 1 0 []
  | v => .val v
def ofZero : Value → D
  | .agg cs => .agg (cs.toList.map ofVal)
  | v => ofVal v
def PSt.ev (st : PSt) : Operand → D
  | .tmp t => st.env t
  | .const v => ofZero v
  | .global g => .val (.pointer (some ⟨g, 0, none⟩))
  | .func f => .val (.func (.func f) #[] #[])
def PSt.put (st : PSt) (dst : Option Tmp) (d : D) : PSt :=
  match dst with
  | some t => { st with env := fun i => if i = t then d else st.env i }
  | none => st

structure EnvRep (P : Program) (Γ : Gh) (env : Nat → D) (tmps : Array Value) : Prop where
  rep : ∀ t, t < tmps.size → Rep P Γ (env t) (tmps.getD t undef)
  out : ∀ t, tmps.size ≤ t → env t = .undef

theorem EnvRep.mono {P : Program} {Γ Γ' : Gh} {env : Nat → D} {tmps : Array Value} (h : EnvRep P Γ env tmps) (hle : Γ.le Γ') : EnvRep P Γ' env tmps :=
  ⟨fun t ht => (h.rep t ht).mono hle, h.out⟩

theorem Rep.ofVal (P : Program) (Γ : Gh) (v : Value) : Rep P Γ (Pw.ofVal v) v := by
  unfold Pw.ofVal
  split
  · exact .nil 0
  · exact .val _
theorem Rep.ofZero (P : Program) (Γ : Gh) (v : Value) : Rep P Γ (Pw.ofZero v) v := by
  unfold Pw.ofZero
  split
  · rename_i cs
    have h := Rep.agg (P := P) (Γ := Γ) (cs.toList.map Pw.ofVal) cs.toList (by simp) (fun i d v hd hv => by
      simp only [List.getElem?_map, hv, Option.map_some, Option.some.injEq] at hd
      subst hd
      exact Rep.ofVal P Γ v)
    simpa using h
  · exact Rep.ofVal P Γ _

theorem EnvRep.ev {P : Program} {Γ : Gh} {st : PSt} {a : Act} (h : EnvRep P Γ st.env a.tmps) (x : Operand) : Rep P Γ (st.ev x) (a.eval x) := by
  cases x with
  | tmp t =>
    rcases Nat.lt_or_ge t a.tmps.size with ht | ht
    · exact h.rep t ht
    · show Rep P Γ (st.env t) _
      rw [h.out t ht]; exact .undef _
  | const v => exact Rep.ofZero P Γ v
  | global g => exact .val _
  | func f => exact .val _

theorem EnvRep.put {P : Program} {Γ : Gh} {st : PSt} {a : Act} (h : EnvRep P Γ st.env a.tmps) {dst : Option Tmp} (hd : ∀ t, dst = some t → t < a.tmps.size) {d : D} {v : Value} (hr : Rep P Γ d v) :
    EnvRep P Γ (st.put dst d).env (a.put dst v).tmps := by
  cases dst with
  | none => exact h
  | some t =>
    have ht := hd t rfl
    refine ⟨fun i hi => ?_, fun i hi => ?_⟩
    · simp only [Act.put, Array.size_setIfInBounds] at hi
      simp only [PSt.put, Act.put]
      by_cases e : i = t
      · subst e; simpa [ht] using hr
      · have e' : t ≠ i := fun x => e x.symm
        have := h.rep i hi
        simpa [e, Array.getElem?_setIfInBounds_ne e'] using this
    · simp only [Act.put, Array.size_setIfInBounds] at hi
      have e : i ≠ t := fun e => Nat.lt_irrefl _ (Nat.lt_of_lt_of_le ht (e ▸ hi))
      simp only [PSt.put, if_neg e]
      exact h.out i hi

/-! ### Small facts on flat rows -/
theorem flat_cons (d : D) (l : List D) : flat (d :: l) = cellsD d ++ flat l := by simp [flat]
theorem flat_append (l m : List D) : flat (l ++ m) = flat l ++ flat m := by simp [flat]
theorem flat_length {P : Program} {e : TypeId} : ∀ {l : List D}, (∀ d ∈ l, (cellsD d).length = szOf P e) → (flat l).length = l.length * szOf P e
  | [], _ => by simp [flat]
  | d :: l, h => by
    rw [flat_cons, List.length_append, h d (by simp), flat_length (fun x hx => h x (by simp [hx])), List.length_cons, Nat.add_mul, Nat.one_mul, Nat.add_comm]
theorem flat_get {P : Program} {e : TypeId} : ∀ {l : List D} (_ : ∀ d ∈ l, (cellsD d).length = szOf P e) (i k : Nat) (d : D), l[i]? = some d → k < szOf P e → (flat l)[i * szOf P e + k]? = (cellsD d)[k]?
  | [], _, i, k, d, h, _ => by simp at h
  | x :: l, hs, 0, k, d, h, hk => by
    simp at h; subst h
    rw [flat_cons, Nat.zero_mul, Nat.zero_add, List.getElem?_append_left (by rw [hs x (by simp)]; exact hk)]
  | x :: l, hs, i + 1, k, d, h, hk => by
    simp at h
    have hx := hs x (by simp)
    rw [flat_cons, List.getElem?_append_right (by rw [hx, Nat.add_mul]; omega), hx, Nat.add_mul, Nat.one_mul,
      show i * szOf P e + szOf P e + k - szOf P e = i * szOf P e + k by omega]
    exact flat_get (fun y hy => hs y (by simp [hy])) i k d h hk

theorem rep_val {P : Program} {Γ : Gh} {u v : Value} (h : Rep P Γ (.val u) v) : v = u := by cases h; rfl

/-! ### What an operation comes to -/
/-- Not an operation on its own: the cells at an offset, as a value of type t. -/
def pPart (P : Program) (t : TypeId) (cs : List D) (off : Nat) (K : D → Prop) : Prop :=
  match P.underlying t with
  | some (.struct _) | some (.array _ _) => off + szOf P t ≤ cs.length ∧ K (.agg ((cs.drop off).take (szOf P t)))
  | some _ => off < cs.length ∧ K (cs.getD off .undef)
  | none => False

def intBin (op : BinOp) (k : IntKind) (a b : Int) (K : D → Prop) : Prop :=
  match op with
  | .add => K (.val (.int k (k.wrap (a + b))))
  | .sub => K (.val (.int k (k.wrap (a - b))))
  | .mul => K (.val (.int k (k.wrap (a * b))))
  | .quo => b ≠ 0 ∧ K (.val (.int k (k.wrap (a.tdiv b))))
  | .rem => b ≠ 0 ∧ K (.val (.int k (a.tmod b)))
  | .and => K (.val (.int k (k.wrap (BitVec.ofInt k.bits a &&& BitVec.ofInt k.bits b).toNat)))
  | .or => K (.val (.int k (k.wrap (BitVec.ofInt k.bits a ||| BitVec.ofInt k.bits b).toNat)))
  | .xor => K (.val (.int k (k.wrap (BitVec.ofInt k.bits a ^^^ BitVec.ofInt k.bits b).toNat)))
  | .andNot => K (.val (.int k (k.wrap (BitVec.ofInt k.bits a &&& ~~~ BitVec.ofInt k.bits b).toNat)))
  | .eql => K (.val (.bool (decide (a = b))))
  | .neq => K (.val (.bool (!decide (a = b))))
  | .lss => K (.val (.bool (decide (a < b))))
  | .leq => K (.val (.bool (decide (a ≤ b))))
  | .gtr => K (.val (.bool (decide (b < a))))
  | .geq => K (.val (.bool (decide (b ≤ a))))
  | _ => False
def strBin (op : BinOp) (a b : ByteArray) (K : D → Prop) : Prop :=
  match op with
  | .add => a.data.toList.length + b.data.toList.length ≤ 9223372036854775807 ∧ K (.val (.string ⟨(a.data.toList ++ b.data.toList).toArray⟩))
  | .eql => K (.val (.bool (decide (a.data.toList = b.data.toList))))
  | .neq => K (.val (.bool (!decide (a.data.toList = b.data.toList))))
  | .lss => K (.val (.bool (Op.bytesLess a.data.toList b.data.toList)))
  | .leq => K (.val (.bool (Op.bytesLess a.data.toList b.data.toList || decide (a.data.toList = b.data.toList))))
  | .gtr => K (.val (.bool (!(Op.bytesLess a.data.toList b.data.toList || decide (a.data.toList = b.data.toList)))))
  | .geq => K (.val (.bool (!Op.bytesLess a.data.toList b.data.toList)))
  | _ => False
/-- A slice or a pointer held against nil: of an empty slice that came in nothing is known. -/
def isNilD : D → Option Bool
  | .slice g _ l => if g = 1 then some true else if 2 ≤ g then some false else match l with
    | [] => none
    | _ :: _ => some false
  | .arr .. => some false
  | _ => none
def isNilP : D → Option Bool
  | .ptr .. => some false
  | .obj .. => some false
  | .val (.pointer none) => some true
  | _ => none
/-- The fields of a struct that is compared cell by cell. -/
inductive FK where
  | s | b | i
def fieldKind (P : Program) (x : Field × Nat) : Option FK :=
  if x.1.offset = x.2 ∧ x.1.name ≠ "_" then match P.underlying x.1.type with
    | some .string => some .s
    | some .bool => some .b
    | some (.int _) => some .i
    | _ => none
  else none
/-- A struct type whose fields are all whole numbers, bools and strings. -/
def flatKinds (P : Program) (t : TypeId) : Option (List FK) :=
  match P.underlying t with
  | some (.struct fs) => if P.stoodInHeld t = false ∧ P.eqGuardType P.depth t = false then fs.toList.zipIdx.mapM (fieldKind P) else none
  | _ => none
def eqCell : FK → D → D → Option Bool
  | .s, .val (.string a), .val (.string b) => some (decide (a.data.toList = b.data.toList))
  | .i, .val (.int k a), .val (.int k' b) => if k = k' then some (decide (a = b)) else none
  | .b, .val (.bool a), .val (.bool b) => some (a == b)
  | _, _, _ => none
def eqCells : List FK → List D → List D → Option Bool
  | [], [], [] => some true
  | k :: ks, x :: xs, y :: ys => (eqCell k x y).bind fun a => (eqCells ks xs ys).map (a && ·)
  | _, _, _ => none
def pEq (op : BinOp) (r : Option Bool) (K : D → Prop) : Prop :=
  match op, r with
  | .eql, some b => K (.val (.bool b))
  | .neq, some b => K (.val (.bool (!b)))
  | _, _ => False
def pBin (P : Program) (op : BinOp) (t : TypeId) (x y : D) (K : D → Prop) : Prop :=
  match x, y with
  | .val (.int k a), .val (.int k' b) =>
    match op with
    | .shl => 0 ≤ b ∧ K (.val (.int k (k.wrap (a * 2 ^ (min b.toNat k.bits)))))
    | .shr => 0 ≤ b ∧ K (.val (.int k (a.fdiv (2 ^ (min b.toNat k.bits)))))
    | _ => k = k' ∧ intBin op k a b K
  | .val (.string a), .val (.string b) => strBin op a b K
  | .val (.bool a), .val (.bool b) =>
    match op with
    | .eql => P.underlying t = some .bool ∧ K (.val (.bool (a == b)))
    | .neq => P.underlying t = some .bool ∧ K (.val (.bool (!(a == b))))
    | _ => False
  | .agg xs, .agg ys => match flatKinds P t with
    | some ks => pEq op (eqCells ks xs ys) K
    | none => False
  | x, .slice 1 _ [] => (∃ e, P.underlying t = some (.slice e)) ∧ pEq op (isNilD x) K
  | x, .val (.pointer none) => (∃ e, P.underlying t = some (.pointer e)) ∧ pEq op (isNilP x) K
  | _, _ => False
def pUn (op : UnOp) (x : D) (K : D → Prop) : Prop :=
  match op, x with
  | .neg, .val (.int k n) => K (.val (.int k (k.wrap (0 - n))))
  | .not, .val (.bool b) => K (.val (.bool (!b)))
  | _, _ => False
def byteAt (s : List UInt8) (i : Nat) : Int := ((s.getD i 0).toNat : Int)
def pIndex (P : Program) (t : TypeId) (x i : D) (K : D → Prop) : Prop :=
  match x, i with
  | .val (.string s), .val (.int _ i) => P.underlying t = some .string ∧ 0 ≤ i ∧ i < s.data.toList.length ∧ K (.val (.int .u8 (byteAt s.data.toList i.toNat)))
  | .agg cs, .val (.int _ i) =>
    match P.underlying t with
    | some (.array n e) => 0 < szOf P e ∧ 0 ≤ i ∧ i < n ∧ pPart P e cs (i.toNat * szOf P e) K
    | _ => False
  | _, _ => False
def pField (P : Program) (t : TypeId) (x : D) (f : Nat) (K : D → Prop) : Prop :=
  match x, P.underlying t with
  | .agg cs, some (.struct fs) => match fs[f]? with
    | some fd => pPart P fd.type cs fd.offset K
    | none => False
  | _, _ => False
def pFieldAddr (P : Program) (t : TypeId) (x : D) (f : Nat) (K : D → Prop) : Prop :=
  match P.underlying t with
  | some (.struct fs) => match fs[f]? with
    | some fd => 0 < szOf P fd.type ∧ match x with
      | .ptr i off => K (.ptr i (off + fd.offset))
      | .obj cs off => K (.obj cs (off + fd.offset))
      | _ => False
    | none => False
  | _ => False
def pIndexAddr (P : Program) (t : TypeId) (x i : D) (K : D → Prop) : Prop :=
  match i with
  | .val (.int _ i) =>
    match P.underlying t, x with
    | some (.slice e), .slice _ e' l => e = e' ∧ 0 < szOf P e ∧ 0 ≤ i ∧ i < l.length ∧ K (.obj (cellsD (l.getD i.toNat .undef)) 0)
    | some (.slice e), .arr b e' off len => e = e' ∧ 0 < szOf P e ∧ 0 ≤ i ∧ i < len ∧ K (.ptr b (off + i.toNat * szOf P e))
    | some (.array n e), .ptr b off => 0 < szOf P e ∧ 0 ≤ i ∧ i < n ∧ K (.ptr b (off + i.toNat * szOf P e))
    | some (.array n e), .obj cs off => 0 < szOf P e ∧ 0 ≤ i ∧ i < n ∧ K (.obj cs (off + i.toNat * szOf P e))
    | _, _ => False
  | _ => False
def pLoad (P : Program) (t : TypeId) (x : D) (H : Heap) (K : D → Prop) : Prop :=
  match x with
  | .obj cs off => pPart P t cs off K
  | .ptr i off => match H i with
    | some (.cells cs) => pPart P t cs off K
    | _ => False
  | _ => False
def pExtract (x : D) (i : Nat) (K : D → Prop) : Prop :=
  match x with
  | .tup vs => i < vs.length ∧ K (vs.getD i .undef)
  | _ => False
def pBounds (lo hi : Option D) (len : Nat) (K : Nat → Nat → Prop) : Prop :=
  match lo, hi with
  | none, none => K 0 len
  | some (.val (.int _ l)), none => 0 ≤ l ∧ l ≤ len ∧ K l.toNat len
  | none, some (.val (.int _ h)) => 0 ≤ h ∧ h ≤ len ∧ K 0 h.toNat
  | some (.val (.int _ l)), some (.val (.int _ h)) => 0 ≤ l ∧ l ≤ h ∧ h ≤ len ∧ K l.toNat h.toNat
  | _, _ => False
/-- A part of an array that may be written to; an empty part is of none. -/
def subArr (i : Nat) (e : TypeId) (off sz a b : Nat) : D := if a < b then .arr i e (off + a * sz) (b - a) else .slice 0 e []
def pSlice (P : Program) (t : TypeId) (x : D) (lo hi : Option D) (K : D → Prop) : Prop :=
  match P.underlying t, x with
  | some .string, .val (.string s) => pBounds lo hi s.data.toList.length fun l h => K (.val (.string ⟨((s.data.toList.take h).drop l).toArray⟩))
  | some (.slice e), .slice _ e' l => 0 < szOf P e ∧ (e = e' ∨ l = []) ∧ pBounds lo hi l.length fun a b => K (.slice 0 e ((l.take b).drop a))
  | some (.slice e), .arr i e' off len => 0 < szOf P e ∧ e = e' ∧ pBounds lo hi len fun a b => K (subArr i e off (szOf P e) a b)
  | some (.array n e), .ptr i off => 0 < szOf P e ∧ n ≤ maxLen ∧ pBounds lo hi n fun a b => K (subArr i e off (szOf P e) a b)
  | _, _ => False
def byD (b : UInt8) : D := .val (.int .u8 b.toNat)
def isByteD : D → Bool
  | .val (.int .u8 _) => true
  | _ => false
def toByteD : D → UInt8
  | .val (.int _ n) => UInt8.ofNat n.toNat
  | _ => 0
def pConvert (P : Program) (src dst : TypeId) (x : D) (H : Heap) (K : D → Heap → Prop) : Prop :=
  match P.underlying src, P.underlying dst, x with
  | some _, some (.int k), .val (.int _ n) => K (.val (.int k (k.wrap n))) H
  | some _, some .string, .val (.string s) => K (.val (.string s)) H
  | some (.slice e), some .string, .slice _ e' l => P.underlying e = some (.int .u8) ∧ szOf P e = 1 ∧ (e = e' ∨ l = []) ∧ (∀ d ∈ l, isByteD d = true) ∧ K (.val (.string ⟨(l.map toByteD).toArray⟩)) H
  | some (.slice e), some .string, .arr i e' off len => P.underlying e = some (.int .u8) ∧ match H i with
    | some (.cells cs) => off + len ≤ cs.length ∧ (∀ d ∈ (cs.drop off).take len, isByteD d = true) ∧ K (.val (.string ⟨(((cs.drop off).take len).map toByteD).toArray⟩)) H
    | _ => False
  | some _, some (.slice e), .val (.string s) => P.underlying e = some (.int .u8) ∧ szOf P e = 1 ∧ s.data.toList.length ≤ maxLen ∧
      (K (.slice 0 e (s.data.toList.map byD)) H ∨
       ∀ i, 2 ≤ i → H i = none → K (.arr i e 0 s.data.toList.length) (H.put i (some (.cells (s.data.toList.map byD)))))
  | _, _, _ => False
def zeroD (P : Program) (t : TypeId) : Option (List D) :=
  match P.info? t with
  | some i => match i.zero with
    | some v => some (v.cells.toList.map ofVal)
    | none => none
  | none => none
def pMakeInterface (P : Program) (t : TypeId) (x : D) (K : D → Prop) : Prop :=
  match P.underlying t with
  | some (.interface _) => False
  | some _ => match x with
    | .val v => K (.val (.iface t v))
    | d => K (.ifc t d)
  | none => False
def pNilCheck (x : D) (K : D → Prop) : Prop :=
  match x with
  | .ptr i off => K (.ptr i off)
  | .obj cs off => K (.obj cs off)
  | .val (.func (.func f) a b) => K (.val (.func (.func f) a b))
  | .clo (.func f) a b => K (.clo (.func f) a b)
  | _ => False
def okElems (P : Program) (e : TypeId) (l : List D) : Prop := ∀ d ∈ l, (cellsD d).length = szOf P e
/-- Cells that may lie in memory: none of them a struct, an array or a tuple. -/
def oneD : D → Bool
  | .agg _ | .tup _ | .undef => false
  | .val v => v.oneCell'
  | _ => true
def pAppend (P : Program) (t : TypeId) (s x : D) (H : Heap) (K : D → Heap → Prop) : Prop :=
  match P.underlying t with
  | some (.slice e) => match P.info? e with
    | some inf => 0 < inf.size ∧ 0 < inf.bytes ∧ (∃ z, inf.zero = some z ∧ z.cells.size = inf.size) ∧ match s, x with
      | .slice g e1 l, .slice _ e2 m =>
        (l = [] ∨ e = e1) ∧ (m = [] ∨ e = e2) ∧ (l.length + m.length) * inf.bytes ≤ 140737488355328 ∧
        ((g = 1 ∧ l = [] ∧ (m = [] → K (.slice 1 e []) H) ∧ (m ≠ [] → ∀ g', 2 ≤ g' → H g' = none → K (.slice g' e m) (H.put g' (some .spare)))) ∨
         (2 ≤ g ∧ e = e1 ∧ H g = some .spare ∧ ∀ g', 2 ≤ g' → H g' = none → K (.slice g' e (l ++ m)) ((H.put g none).put g' (some .spare))))
      | _, _ => False
    | none => False
  | _ => False

def pPick (c a b : D) (K : D → Prop) : Prop :=
  match c with
  | .val (.bool t) => (t = true → K a) ∧ (t = false → K b)
  | _ => False
/-- Cells from an offset on are written. -/
def updD (cs : List D) (off : Nat) : List D → List D
  | [] => cs
  | d :: ds => updD (cs.set off d) (off + 1) ds
def okPart : D → Bool
  | .agg cs => cs.all oneD
  | d => oneD d
def fillD (place : Nat → Option (Nat × Nat)) (cells : List D) : List (Nat × D) → Option (List D)
  | [] => some cells
  | (i, d) :: rest =>
    match place i with
    | none => none
    | some (off, size) => if (cellsD d).length ≠ size ∨ off + (cellsD d).length > cells.length ∨ okPart d = false then none else fillD place (updD cells off (cellsD d)) rest
/-- Where a struct's fields lie, and how many cells each has. -/
def placesOf (P : Program) (t : TypeId) : Option (List (Nat × Nat)) :=
  match P.underlying t with
  | some (.struct fs) => if fs.toList.all (fun f => decide (0 < szOf P f.type)) then some (fs.toList.map fun f => (f.offset, szOf P f.type)) else none
  | _ => none
def pBuild (P : Program) (t : TypeId) (parts : List (Nat × D)) (K : D → Prop) : Prop :=
  match zeroD P t with
  | some z => z.all oneD = true ∧ match placesOf P t with
    | some pl => match fillD (fun i => pl[i]?) z parts with
      | some cs => K (.agg cs)
      | none => False
    | none => match P.underlying t with
      | some (.array _ e) => 0 < szOf P e ∧ match fillD (fun i => some (i * szOf P e, szOf P e)) z parts with
        | some cs => K (.agg cs)
        | none => False
      | _ => False
  | none => False
def pBuildSlice (P : Program) (t : TypeId) (n : Nat) (parts : List (Nat × D)) (H : Heap) (K : D → Heap → Prop) : Prop :=
  match P.underlying t with
  | some (.slice e) => 0 < szOf P e ∧ n * szOf P e ≤ 16777216 ∧ parts.map (·.1) = List.range n ∧ (zeroD P e).isSome = true ∧
    parts.all (fun p => okPart p.2 && (cellsD p.2).length == szOf P e) = true ∧
    ((∀ g, 2 ≤ g → H g = none → K (.slice g e (parts.map (·.2))) (H.put g (some .spare))) ∨
     (∀ i, 2 ≤ i → H i = none → K (.arr i e 0 n) (H.put i (some (.cells (flat (parts.map (·.2))))))))
  | _ => False
/-- A zero element, as a value. -/
def zeroElem (P : Program) (e : TypeId) : Option D :=
  match P.info? e with
  | some i => match i.zero with
    | some v => if v.cells.size = i.size ∧ v.cells.toList.all (fun c => c.oneCell') = true then some (ofZero v) else none
    | none => none
  | none => none
def pMakeSlice (P : Program) (t : TypeId) (n c : D) (H : Heap) (K : D → Heap → Prop) : Prop :=
  match P.underlying t, n, c with
  | some (.slice e), .val (.int _ n), .val (.int _ c) => match P.info? e, zeroElem P e with
    | some inf, some z => 0 < inf.size ∧ 0 ≤ n ∧ n ≤ c ∧ inf.bytes * c ≤ 281474976710656 ∧ c ≤ 9223372036854775807 ∧
      ((∀ g, 2 ≤ g → H g = none → K (.slice g e (List.replicate n.toNat z)) (H.put g (some .spare))) ∨
       (∀ i, 2 ≤ i → H i = none → K (.arr i e 0 n.toNat) (H.put i (some (.cells (flat (List.replicate n.toNat z)))))))
    | _, _ => False
  | _, _, _ => False
def pAlloc (P : Program) (t : TypeId) (H : Heap) (K : D → Heap → Prop) : Prop :=
  match zeroElem P t with
  | some z => ∀ i, 2 ≤ i → H i = none → K (.ptr i 0) (H.put i (some (.cells (cellsD z))))
  | none => False
def pBox (d : D) (H : Heap) (K : D → Heap → Prop) : Prop :=
  okPart d = true ∧ ((∀ i, 2 ≤ i → H i = none → K (.ptr i 0) (H.put i (some (.cells (cellsD d))))) ∨ K (.obj (cellsD d) 0) H)
def pStore (P : Program) (t : TypeId) (p d : D) (H : Heap) (K : Heap → Prop) : Prop :=
  match p with
  | .ptr i off => match H i with
    | some (.cells cs) => 0 < szOf P t ∧ okPart d = true ∧ (cellsD d).length = szOf P t ∧ off + szOf P t ≤ cs.length ∧ K (H.put i (some (.cells (updD cs off (cellsD d)))))
    | _ => False
  | _ => False
def pLen (P : Program) (t : TypeId) (x : D) (K : D → Prop) : Prop :=
  match P.underlying t, x with
  | some .string, .val (.string s) => K (.val (.int .i64 s.data.toList.length))
  | some (.slice _), .slice _ _ l => K (.val (.int .i64 l.length))
  | some (.slice _), .arr _ _ _ n => K (.val (.int .i64 n))
  | some (.array n _), _ => K (.val (.int .i64 n))
  | _, _ => False
def pMinMax (mx : Bool) : List D → (D → Prop) → Prop
  | [], _ => False
  | [x], K => K x
  | .val (.int k a) :: .val (.int k' b) :: rest, K => k = k' ∧ pMinMax mx (.val (.int k (if mx then (if a < b then b else a) else (if b < a then b else a))) :: rest) K
  | _, _ => False
termination_by l => l.length
def guardD (ops : Array Oper) (st : PSt) (j : Nat) : Option (Option Bool) :=
  match (ops[j]?).bind (·.dst) with
  | some t => match st.env t with
    | .val (.bool b) => some (some b)
    | .val (.tuple _) => some none
    | _ => none
  | none => some none
end Go.Pw
