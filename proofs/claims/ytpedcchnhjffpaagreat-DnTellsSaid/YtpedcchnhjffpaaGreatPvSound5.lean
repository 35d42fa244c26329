/- A part of the proof: functions of the program, walked, or what operations come to. -/
import Derived.Test.YtpedcchnhjffpaaGreatPvSound4
import Derived.Lib.SliceRun
namespace Go.Pv
open Go.RowKit Go.Lib
section
variable {P : Program} {base : Prot} {w0 : World} {Γ : Gh} {H : Heap} {w : World}

theorem len_still (h : Rel P base w0 Γ H w) {t : TypeId} {ty : TypeId} {x d : D} {v : Value} (hx : Rep P Γ x v) (hK : eLen P t x H = some d) : Still P Γ w (Builtin.len_ #[t] ty #[v]) d := by
  unfold eLen at hK
  split at hK
  · rename_i s hu
    cases hK
    obtain rfl := rep_val hx
    exact ⟨_, by simp [Builtin.len_, run_underlying hu, goInt], .val _⟩
  · rename_i e g e' l hu
    cases hK
    refine ⟨.int .i64 l.length, ?_, .val _⟩
    cases hx <;> simp [Builtin.len_, run_underlying hu, goInt]
  · rename_i e i e' off n hu
    cases hK
    refine ⟨.int .i64 n, ?_, .val _⟩
    cases hx
    simp [Builtin.len_, run_underlying hu, goInt]
  · rename_i e i e' off n hu
    cases hK
    refine ⟨.int .i64 n, ?_, .val _⟩
    cases hx
    simp [Builtin.len_, run_underlying hu, goInt]
  · rename_i hu
    cases hK
    exact ⟨_, by simp [Builtin.len_, run_underlying hu, goInt], .val _⟩
  · rename_i hu
    cases hK
    obtain rfl := rep_val hx
    exact ⟨_, by simp [Builtin.len_, run_underlying hu, goInt], .val _⟩
  · rename_i i hu
    split at hK
    · rename_i es hi
      cases hK
      cases hx with
      | mp _ y hy =>
        obtain ⟨_, _, ents, clock, h1, h2, h3⟩ := h.objAt hi hy
        refine ⟨.int .i64 es.length, ?_, .val _⟩
        simp [Builtin.len_, run_underlying hu, goInt, getObj, Sem.run, h1, h2]
    · cases hK
  · cases hK

theorem min_fold {w : World} (mx : Bool) : ∀ (n : Nat) (l : List D) (vs : List Value) {d : D} (_ : RepAll P Γ l vs) (_ : eMinMax mx n l = some d),
    ∃ x rest, vs = x :: rest ∧ Still P Γ w (rest.foldlM (if mx then Builtin.max2 else Builtin.min2) x) d
  | 0, l, vs, _, _, hK => by simp [eMinMax] at hK
  | n + 1, [], vs, _, _, hK => by simp [eMinMax] at hK
  | n + 1, [x], vs, _, hr, hK => by
    match vs, hr with
    | [v], hr =>
      simp only [eMinMax, Option.some.injEq] at hK
      subst hK
      exact ⟨v, [], rfl, v, rfl, hr.2 0 x v rfl rfl⟩
  | n + 1, x :: y :: rest, vs0, _, hr, hK => by
    match vs0, hr with
    | v :: u :: vs, hr =>
      unfold eMinMax at hK
      split at hK
      case h_1 => cases hK
      case h_2 => cases hK
      case h_3 => rename_i he; simp at he
      case h_5 => cases hK
      rename_i k a k' b rest' hn he
      simp only [List.cons.injEq] at he
      obtain ⟨rfl, rfl, rfl⟩ := he
      cases hn
      split at hK
      case isFalse => cases hK
      rename_i hkk
      subst hkk
      obtain rfl := rep_int (hr.2 0 _ v rfl rfl)
      obtain rfl := rep_int (hr.2 1 _ u rfl rfl)
      have hr' : RepAll P Γ (.val (.int k (if mx then (if a < b then b else a) else (if b < a then b else a))) :: rest) (.int k (if mx then (if a < b then b else a) else (if b < a then b else a)) :: vs) := by
        refine ⟨by simpa using hr.1, fun i d v hd hv => ?_⟩
        cases i with
        | zero => simp at hd hv; subst hd; subst hv; exact .val _
        | succ i => exact hr.2 (i + 2) d v (by simpa using hd) (by simpa using hv)
      obtain ⟨x, rest', he, hs⟩ := min_fold mx n _ _ hr' hK
      simp only [List.cons.injEq] at he
      obtain ⟨rfl, rfl⟩ := he
      refine ⟨_, _, rfl, ?_⟩
      obtain ⟨v', h1, h2⟩ := hs
      refine ⟨v', ?_, h2⟩
      rw [List.foldlM_cons, Sem.run_bind, ← h1]
      cases mx <;> simp [Builtin.max2, Builtin.min2]

/-! ### Maps -/
def RepM (P : Program) (Γ : Gh) (ents : List MapEntry) (es : List (Value × D)) : Prop := ents.length = es.length ∧ ∀ (j : Nat) k d, es[j]? = some (k, d) → ∃ m, ents[j]? = some m ∧ m.key = k ∧ Rep P Γ d m.val
theorem RepM.tail {m : MapEntry} {ents : List MapEntry} {e : Value × D} {es : List (Value × D)} (h : RepM P Γ (m :: ents) (e :: es)) : m.key = e.1 ∧ Rep P Γ e.2 m.val ∧ RepM P Γ ents es := by
  obtain ⟨m', h1, h2, h3⟩ := h.2 0 e.1 e.2 rfl
  cases h1
  exact ⟨h2, h3, by simpa using h.1, fun j k d hj => by simpa using h.2 (j + 1) k d (by simpa using hj)⟩
theorem baBeq (a b : ByteArray) : (a == b) = decide (a.data.toList = b.data.toList) := by
  have h : (a == b) = (a.data == b.data) := rfl
  rw [h, Bool.eq_iff_iff]
  simp
theorem sameNow_of {kind : TypeDesc} {k k' : Value} (h1 : keyOk (some kind) k = true) (h2 : keyKind k k' = true) : Instr.sameNow kind k k' = some (sameKey k k') := by
  unfold keyOk at h1
  split at h1
  · rename_i kk a b h; cases h
    unfold keyKind at h2; split at h2 <;> first | (cases ‹Value.int _ _ = _›; done) | skip
    · rename_i e; cases e; simp at h2; subst h2; simp [Instr.sameNow, sameKey]
    all_goals cases h2
  · rename_i s h; cases h
    unfold keyKind at h2; split at h2 <;> first | (cases ‹Value.string _ = _›; done) | skip
    · rename_i e; cases e
      simp only [Instr.sameNow, sameKey, ByteArray.toList_eq, deq_beq, baBeq]
    all_goals cases h2
  · rename_i b h; cases h
    unfold keyKind at h2; split at h2 <;> first | (cases ‹Value.bool _ = _›; done) | skip
    · rename_i e; cases e; simp [Instr.sameNow, sameKey]
    all_goals cases h2
  · cases h1
theorem findNow_of {kind : TypeDesc} {k : Value} (d : D) (h1 : keyOk (some kind) k = true) : ∀ (ents : List MapEntry) (es : List (Value × D)) (i : Nat), RepM P Γ ents es → es.all (fun e => keyKind k e.1) = true →
    (mapFind k es = none ∧ Instr.findNow kind k ents i = some none ∧ mapPut k d es = es ++ [(k, d)] ∧ mapDel k es = es) ∨
    (∃ j m d', Instr.findNow kind k ents i = some (some (i + j, m.val)) ∧ ents[j]? = some m ∧ sameKey k m.key = true ∧ mapFind k es = some d' ∧ Rep P Γ d' m.val ∧ mapPut k d es = es.set j (k, d) ∧ mapDel k es = es.eraseIdx j)
  | [], [], i, _, _ => .inl ⟨rfl, rfl, rfl, rfl⟩
  | [], _ :: _, _, h, _ => by simp [RepM] at h
  | _ :: _, [], _, h, _ => by simp [RepM] at h
  | m :: ents, e :: es, i, h, ha => by
    obtain ⟨t1, t2, t3⟩ := h.tail
    simp only [List.all_cons, Bool.and_eq_true] at ha
    have hs := sameNow_of h1 ha.1
    by_cases hk : sameKey k e.1 = true
    · refine .inr ⟨0, m, e.2, ?_, rfl, by rw [t1]; exact hk, ?_, t2, ?_, ?_⟩
      · simp [Instr.findNow, t1, hs, hk]
      · simp [mapFind, hk]
      · simp [mapPut, hk]
      · simp [mapDel, hk]
    · have hk' : sameKey k e.1 = false := by simpa using hk
      have hf : Instr.findNow kind k (m :: ents) i = Instr.findNow kind k ents (i + 1) := by simp [Instr.findNow, t1, hs, hk']
      rcases findNow_of d h1 ents es (i + 1) t3 ha.2 with ⟨q1, q2, q3, q4⟩ | ⟨j, m', d', q1, q2, q3, q4, q5, q6, q7⟩
      · exact .inl ⟨by simp [mapFind, hk', q1], by rw [hf, q2], by simp [mapPut, hk', q3], by simp [mapDel, hk', q4]⟩
      · exact .inr ⟨j + 1, m', d', by rw [hf, q1]; congr 3; omega, by simpa using q2, q3, by simp [mapFind, hk', q4], q5, by simp [mapPut, hk', q6], by simp [mapDel, hk', q7]⟩

theorem keyOk_some {d : Option TypeDesc} {k : Value} (h : keyOk d k = true) : ∃ kind, d = some kind ∧ keyOk (some kind) k = true := by
  cases d with
  | none => cases k <;> simp [keyOk] at h
  | some d => exact ⟨d, rfl, h⟩
theorem run_checkKey {kt : TypeId} {k : Value} {kind : TypeDesc} (hu : P.underlying kt = some kind) (h : keyOk (some kind) k = true) (b : Bool) (w : World) : (Instr.checkKey b 10000 kt k).run P w = .ok () w := by
  have : ∀ n, (Instr.checkKey b (n + 1) kt k).run P w = .ok () w := by
    intro n
    unfold keyOk at h
    split at h
    · rename_i e; cases e; simp [Instr.checkKey, run_underlying hu]
    · rename_i e; cases e; simp [Instr.checkKey, run_underlying hu]
    · rename_i e; cases e; simp [Instr.checkKey, run_underlying hu]
    · cases h
  exact this 9999
theorem run_findKey {kt : TypeId} {k : Value} {kind : TypeDesc} (hu : P.underlying kt = some kind) {ents : List MapEntry} {r : Option (Nat × Value)} (h : Instr.findNow kind k ents 0 = some r) (w : World) : (Instr.findKey kt k ents).run P w = .ok r w := by
  simp [Instr.findKey, run_underlying hu, h]
theorem sameBits_of {a b : Value} (h : sameKey b a = true) : Instr.sameBits 10000 a b = true := by
  have key : ∀ n, Instr.sameBits n a b = true := by
    intro n
    unfold sameKey at h
    split at h
    · simp at h; obtain ⟨rfl, rfl⟩ := h; cases n <;> simp [Instr.sameBits]
    · rename_i x y
      have : x = y := by
        have h' : x.data.toList = y.data.toList := by simpa using h
        apply ByteArray.ext; apply Array.ext'; exact h'
      subst this
      cases n <;> simp [Instr.sameBits, baBeq]
    · simp at h; subst h; cases n <;> simp [Instr.sameBits]
    · cases h
  exact key 10000
theorem zeroElem_run {e : TypeId} {z : D} (h : zeroElem P e = some z) (w : World) : ∃ v, (zeroValue e).run P w = .ok v w ∧ Rep P Γ z v := by
  obtain ⟨i, v, hi, hv, _, _, _, rfl, _⟩ := zeroElem_spec h
  exact ⟨v, by simp [zeroValue, typeInfo, hi, hv], .ofZero P Γ v⟩
theorem mapAt (h : Rel P base w0 Γ H w) {i : Nat} {x : Gi} {es : List (Value × D)} (hi : H.get i = some (.map es)) (hx : Γ.g i = some x) : ∃ ents clock, w.heap[x.b]? = some (.map ents clock) ∧ RepM P Γ ents.toList es := by
  obtain ⟨_, _, ents, clock, h1, h2, h3⟩ := h.objAt hi hx
  exact ⟨ents, clock, h1, by simpa using h2, fun j k d hj => by simpa using h3 j k d hj⟩

theorem mapEnts_run (h : Rel P base w0 Γ H w) {m : D} {vm : Value} {es : List (Value × D)} (hm : Rep P Γ m vm) (he : mapEnts H m = some es) :
    ∃ ents : Array MapEntry, RepM P Γ ents.toList es ∧ ((vm = .map none ∧ ents = #[]) ∨ ∃ r clock, vm = .map (some r) ∧ w.heap[r]? = some (.map ents clock)) := by
  unfold mapEnts at he
  split at he
  · cases he
    obtain rfl := rep_val hm
    exact ⟨#[], ⟨rfl, by simp⟩, .inl ⟨rfl, rfl⟩⟩
  · split at he
    · rename_i i es' hi
      cases he
      cases hm with
      | mp _ y hy =>
        obtain ⟨ents, clock, h1, hr⟩ := mapAt h hi hy
        exact ⟨ents, hr, .inr ⟨_, clock, rfl, h1⟩⟩
    · cases he
  · cases he
theorem lookup_still (h : Rel P base w0 Γ H w) {t : TypeId} {m k d : D} {vm vk : Value} {ok : Bool} (hm : Rep P Γ m vm) (hk : Rep P Γ k vk) (hK : eLookup P t m k ok H = some d) : Still P Γ w (Instr.lookup t vm vk ok) d := by
  unfold eLookup at hK
  split at hK
  case h_2 => cases hK
  rename_i kt et kv hu
  obtain rfl := rep_val hk
  split at hK
  case h_2 => cases hK
  rename_i z es hz hes
  split at hK
  case isFalse => cases hK
  rename_i hcc
  obtain ⟨hko, ha⟩ := hcc
  obtain ⟨kind, hkind, hko'⟩ := keyOk_some hko
  obtain ⟨zv, hzr, hzrep⟩ := zeroElem_run (Γ := Γ) hz w
  obtain ⟨ents, hr, hents⟩ := mapEnts_run h hm hes
  have hck := run_checkKey (P := P) hkind hko' ents.isEmpty w
  have hrun : ∀ r, (Instr.findKey kt vk ents.toList).run P w = .ok r w → (Instr.lookup t vm vk ok).run P w = .ok (match r with | some (_, v) => (if ok then .tuple #[v, .bool true] else v) | none => (if ok then .tuple #[zv, .bool false] else zv)) w := by
    intro r hf
    rcases hents with ⟨rfl, rfl⟩ | ⟨q, clock, rfl, hb⟩
    · simp only [Instr.lookup, Sem.run_bind, run_underlying hu, Result.andThen_ok, Sem.run_pure, hck, hf]
      rcases r with _ | ⟨_, _⟩ <;> simp [hzr]
    · simp only [Instr.lookup, Sem.run_bind, run_underlying hu, Result.andThen_ok, Sem.run_pure, getObj, Sem.run, hb, hck, hf]
      rcases r with _ | ⟨_, _⟩ <;> simp [hzr]
  have two : ∀ {x : D} {v : Value} (b : Bool), Rep P Γ x v → Rep P Γ (if ok then D.tup [x, .val (.bool b)] else x) (if ok then .tuple #[v, .bool b] else v) := by
    intro x v b hx
    cases ok
    · exact hx
    · refine Rep.tup [x, .val (.bool b)] [v, .bool b] rfl (fun i d v' hd hv => ?_)
      match i with
      | 0 => simp at hd hv; subst hd; subst hv; exact hx
      | 1 => simp at hd hv; subst hd; subst hv; exact .val _
      | i + 2 => simp at hd
  rcases findNow_of (kind := kind) (k := vk) .undef hko' ents.toList es 0 hr ha with ⟨q1, q2, _⟩ | ⟨j, m', d', q1, _, _, q4, q5, _⟩
  · rw [q1] at hK
    cases hK
    exact ⟨_, hrun _ (run_findKey hkind q2 w), two false hzrep⟩
  · rw [q4] at hK
    cases hK
    exact ⟨_, hrun _ (run_findKey hkind q1 w), two true q5⟩

theorem setMap (h : Rel P base w0 Γ H w) {i : Nat} {x : Gi} {es es' : List (Value × D)} (hi : H.get i = some (.map es)) (hx : Γ.g i = some x) {ents : Array MapEntry} {clock : Nat} (hb : w.heap[x.b]? = some (.map ents clock)) (ents' : Array MapEntry) (clock' : Nat)
    (hr : RepM P Γ ents'.toList es') : (setObj x.b (.map ents' clock')).run P w = .ok () { w with heap := w.heap.setIfInBounds x.b (.map ents' clock') } ∧ Rel P base w0 Γ (H.put i (some (.map es'))) { w with heap := w.heap.setIfInBounds x.b (.map ents' clock') } := by
  obtain ⟨hbase, hlt, _⟩ := h.objAt hi hx
  refine ⟨by simp [setObj, Sem.run, hb], h.setObj hi hx (h.below.trans ⟨rfl, rfl, rfl, by simp, fun k hk => ?_⟩) (by simp) (fun k _ hk => ?_) ?_⟩
  · have : x.b ≠ k := fun e => hbase (e ▸ hk)
    simp [Array.getElem?_setIfInBounds, this]
  · have : x.b ≠ k := fun e => hk e.symm
    simp [Array.getElem?_setIfInBounds, this]
  · refine ⟨ents', clock', by simp [Array.getElem?_setIfInBounds, hlt], by simpa using hr.1, fun j k d hj => by simpa using hr.2 j k d hj⟩
theorem repM_set {ents : List MapEntry} {es : List (Value × D)} (h : RepM P Γ ents es) (j : Nat) (k : Value) (d : D) (m : MapEntry) (hm : m.key = k) (hd : Rep P Γ d m.val) : RepM P Γ (ents.set j m) (es.set j (k, d)) := by
  refine ⟨by simpa using h.1, fun i k' d' hi => ?_⟩
  rw [List.getElem?_set] at hi ⊢
  split at hi
  · rename_i e
    subst e
    split at hi
    · rename_i hlt
      cases hi
      exact ⟨m, by simp [h.1, hlt], hm, hd⟩
    · cases hi
  · rename_i e
    simp only [e, if_false]
    exact h.2 i k' d' hi
theorem mapUpdate_gives (h : Rel P base w0 Γ H w) {t : TypeId} {m k d : D} {vm vk vd : Value} {H' : Heap} (hm : Rep P Γ m vm) (hk : Rep P Γ k vk) (hd : Rep P Γ d vd) (hK : eMapUpdate P t m k d H = some H') :
    ∃ w', (Instr.mapUpdate t vm vk vd).run P w = .ok () w' ∧ Rel P base w0 Γ H' w' := by
  unfold eMapUpdate at hK
  split at hK
  case h_2 => cases hK
  rename_i kt et kv i hu
  obtain rfl := rep_val hk
  split at hK
  case h_2 => cases hK
  rename_i es hi
  split at hK
  case isFalse => cases hK
  rename_i hcc
  obtain ⟨hko, ha⟩ := hcc
  cases hK
  obtain ⟨kind, hkind, hko'⟩ := keyOk_some hko
  cases hm with
  | mp _ y hy =>
    obtain ⟨ents, clock, hb, hr⟩ := mapAt h hi hy
    have hck := run_checkKey (P := P) hkind hko' false w
    rcases findNow_of (kind := kind) (k := vk) d hko' ents.toList es 0 hr ha with ⟨q1, q2, q3, _⟩ | ⟨j, m', d', q1, q2, q3, q4, q5, q6, _⟩
    · obtain ⟨h1, h2⟩ := setMap h hi hy hb (ents.push { key := vk, val := vd, born := clock }) (clock + 1) (es' := es ++ [(vk, d)]) (by
        refine ⟨by simpa using hr.1, fun j k' d' hj => ?_⟩
        have hl := hr.1
        rw [List.getElem?_append] at hj
        split at hj
        · rename_i hlt
          obtain ⟨m, p1, p2, p3⟩ := hr.2 j k' d' hj
          exact ⟨m, by simp only [Array.toList_push]; rw [List.getElem?_append_left (by rw [hl]; exact hlt)]; exact p1, p2, p3⟩
        · rename_i hlt
          have hj0 : j - es.length = 0 := by
            rcases Nat.eq_zero_or_pos (j - es.length) with q | q
            · exact q
            · rw [List.getElem?_eq_none (by simp; omega)] at hj; cases hj
          rw [hj0] at hj; cases hj
          refine ⟨{ key := vk, val := vd, born := clock }, ?_, rfl, hd⟩
          simp only [Array.toList_push]
          rw [List.getElem?_append_right (by rw [hl]; omega), hl, hj0]; rfl)
      rw [q3]
      refine ⟨_, ?_, h2⟩
      simp only [Instr.mapUpdate, Sem.run_bind, run_underlying hu, Result.andThen_ok, getObj, Sem.run, hb, hck, run_findKey hkind q2]
      exact h1
    · obtain ⟨h1, h2⟩ := setMap h hi hy hb (ents.modify j fun e => { e with key := vk, val := vd }) clock (es' := es.set j (vk, d)) (by
        have : (ents.modify j fun e => { e with key := vk, val := vd }).toList = ents.toList.set j { m' with key := vk, val := vd } := by
          have hm' : ents[j]? = some m' := by simpa using q2
          obtain ⟨hjl, hje⟩ := Array.getElem?_eq_some_iff.1 hm'
          apply List.ext_getElem?
          intro i
          rw [List.getElem?_set]
          simp only [Array.getElem?_toList, Array.getElem?_modify]
          split
          · rename_i e; subst e; simp [hm', hjl, hje]
          · rfl
        rw [this]
        exact repM_set hr j vk d _ rfl hd)
      rw [q6]
      refine ⟨_, ?_, h2⟩
      have hkey : (Instr.keyThatStays m'.key vk).run P w = .ok vk w := by simp [Instr.keyThatStays, sameBits_of q3]
      have hgk : ((ents[j]?).map (·.key)).getD vk = m'.key := by
        have : ents[j]? = some m' := by simpa using q2
        rw [this]; rfl
      rw [Nat.zero_add] at q1
      simp only [Instr.mapUpdate, Sem.run_bind, run_underlying hu, Result.andThen_ok, getObj, Sem.run, hb, hck, run_findKey hkind q1, hgk, hkey]
      exact h1
theorem delete_gives (h : Rel P base w0 Γ H w) {t u ty : TypeId} {m k : D} {vm vk : Value} {H' : Heap} (hm : Rep P Γ m vm) (hk : Rep P Γ k vk) (hK : eDelete P t m k H = some H') :
    ∃ w', (Builtin.delete_ #[t, u] ty #[vm, vk]).run P w = .ok undef w' ∧ Rel P base w0 Γ H' w' := by
  unfold eDelete at hK
  split at hK
  · rename_i kt et kv hu
    obtain rfl := rep_val hk
    obtain rfl := rep_val hm
    split at hK
    case isFalse => cases hK
    rename_i hko
    cases hK
    obtain ⟨kind, hkind, hko'⟩ := keyOk_some hko
    have hck := run_checkKey (P := P) hkind hko' true w
    exact ⟨w, by simp [Builtin.delete_, run_underlying hu, hck, undef], h⟩
  · rename_i kt et kv i hu
    obtain rfl := rep_val hk
    split at hK
    case h_2 => cases hK
    rename_i es hi
    split at hK
    case isFalse => cases hK
    rename_i hcc
    obtain ⟨hko, ha⟩ := hcc
    cases hK
    obtain ⟨kind, hkind, hko'⟩ := keyOk_some hko
    cases hm with
    | mp _ y hy =>
      obtain ⟨ents, clock, hb, hr⟩ := mapAt h hi hy
      have hck := run_checkKey (P := P) hkind hko' ents.isEmpty w
      rcases findNow_of (kind := kind) (k := vk) .undef hko' ents.toList es 0 hr ha with ⟨q1, q2, _, q3⟩ | ⟨j, m', d', q1, q2, q3, q4, q5, _, q6⟩
      · obtain ⟨h1, h2⟩ := setMap h hi hy hb ents clock (es' := es) hr
        rw [q3]
        refine ⟨_, ?_, h2⟩
        simp only [Builtin.delete_, Sem.run_bind, run_underlying hu, Result.andThen_ok, getObj, Sem.run, hb, hck, run_findKey hkind q2, h1]
        simp [run_underlying hu, Sem.run, hb, hck, run_findKey hkind q2, h1, undef, Result.andThen, getObj]
      · obtain ⟨h1, h2⟩ := setMap h hi hy hb (ents.eraseIdxIfInBounds j) clock (es' := es.eraseIdx j) (by
          have : (ents.eraseIdxIfInBounds j).toList = ents.toList.eraseIdx j := by simp
          rw [this]
          refine ⟨by rw [List.length_eraseIdx, List.length_eraseIdx, hr.1], fun i k' d' hi => ?_⟩
          rw [List.getElem?_eraseIdx] at hi ⊢
          split at hi
          · rename_i e; rw [if_pos e]; exact hr.2 _ _ _ hi
          · rename_i e; rw [if_neg e]; exact hr.2 _ _ _ hi)
        rw [q6]
        refine ⟨_, ?_, h2⟩
        rw [Nat.zero_add] at q1
        simp [Builtin.delete_, run_underlying hu, Sem.run, hb, hck, run_findKey hkind q1, h1, undef, Result.andThen, getObj]
  · cases hK
theorem makeMap_gives (h : Rel P base w0 Γ H w) {t : TypeId} : Gives P base w0 Γ w (Instr.makeMap t none) (.mp H.nx) (H.new (.map [])) := by
  have hA := h.alloc (.map #[] 0)
  refine ⟨.map (some w.heap.size), _, _, by simp [Instr.makeMap, newObj, Sem.run], h.addLe ⟨w.heap.size, 0, 0, 0⟩, hA.add ⟨w.heap.size, 0, 0, 0⟩ (.map []) h.newIn h.newFree (by rw [hpNew]; exact ⟨#[], 0, rfl, rfl, by simp⟩), ?_⟩
  exact Rep.mp H.nx _ (Γ.add_at _ _)

/-! ### Interfaces -/
theorem ifcOf_rep {x : D} {v : Value} {t : TypeId} {d : D} (hx : Rep P Γ x v) (h : ifcOf x = some (t, d)) : ∃ u, v = .iface t u ∧ Rep P Γ d u := by
  unfold ifcOf at h
  split at h
  · cases h
    cases hx with
    | ifc _ _ u hu => exact ⟨u, rfl, hu⟩
  · cases h
    obtain rfl := rep_val hx
    exact ⟨_, rfl, .ofZero P Γ _⟩
  · cases h
theorem typeAssert_still {x d : D} {v : Value} {xt t : TypeId} {ok : Bool} (hx : Rep P Γ x v) (hK : eTypeAssert P x xt t ok = some d) : Still P Γ w (Instr.typeAssert v xt t ok) d := by
  have two : ∀ {x : D} {v : Value} (b : Bool), Rep P Γ x v → Rep P Γ (D.tup [x, .val (.bool b)]) (.tuple #[v, .bool b]) := by
    intro x v b hx
    refine Rep.tup [x, .val (.bool b)] [v, .bool b] rfl (fun i d v' hd hv => ?_)
    match i with
    | 0 => simp at hd hv; subst hd; subst hv; exact hx
    | 1 => simp at hd hv; subst hd; subst hv; exact .val _
    | i + 2 => simp at hd
  have holds : ∀ {x : D} {v : Value}, Rep P Γ x v → Rep P Γ (if ok then D.tup [x, .val (.bool true)] else x) (if ok then .tuple #[v, .bool true] else v) := by
    intro x v hx
    cases ok
    · exact hx
    · exact two true hx
  have fails : ∀ {d : D}, (if ok then (zeroElem P t).map fun z => D.tup [z, .val (.bool false)] else none) = some d → ok = true ∧ ∃ z zv, d = .tup [z, .val (.bool false)] ∧ (zeroValue t).run P w = .ok zv w ∧ Rep P Γ z zv := by
    intro d hd
    cases ok with
    | false => simp at hd
    | true =>
      simp only [if_true, Option.map_eq_some_iff] at hd
      obtain ⟨z, hz, rfl⟩ := hd
      obtain ⟨zv, h1, h2⟩ := zeroElem_run (Γ := Γ) hz w
      exact ⟨rfl, z, zv, rfl, h1, h2⟩
  unfold eTypeAssert at hK
  split at hK
  · rename_i want hu
    split at hK
    · obtain rfl := rep_val hx
      obtain ⟨rfl, z, zv, rfl, h1, h2⟩ := fails hK
      exact ⟨_, by simp [Instr.typeAssert, run_underlying hu, h1], two false h2⟩
    · split at hK
      · rename_i dt _ hif
        obtain ⟨u, rfl, hu2⟩ := ifcOf_rep hx hif
        split at hK
        · rename_i inf hinf
          have hti : (typeInfo dt).run P w = .ok inf w := by simp [typeInfo, hinf]
          split at hK
          · rename_i hmm
            cases hK
            refine ⟨_, ?_, holds hx⟩
            simp only [Instr.typeAssert, Sem.run_bind, run_underlying hu, Result.andThen_ok, hti, hmm, Sem.run_pure]
          · rename_i mm hmm
            obtain ⟨rfl, z, zv, rfl, h1, h2⟩ := fails hK
            refine ⟨_, ?_, two false h2⟩
            simp only [Instr.typeAssert, Sem.run_bind, run_underlying hu, Result.andThen_ok, hti, hmm, Sem.run_pure, if_true, h1]
        · cases hK
      · cases hK
  · rename_i k hk hu
    have hni : ∀ v', (∃ dt u, v' = .iface dt u) ∨ v' = .nilIface → (Instr.typeAssert v' xt t ok).run P w = (match v' with
        | .iface dt u => if dt = t then .ok (if ok then .tuple #[u, .bool true] else u) w else (if ok then ((zeroValue t).run P w).andThen fun z w => .ok (.tuple #[z, .bool false]) w else (runtimePanic (.typeAssertion (some xt) (some dt) t "")).run P w)
        | _ => (if ok then ((zeroValue t).run P w).andThen fun z w => .ok (.tuple #[z, .bool false]) w else (runtimePanic (.typeAssertion (some xt) none t "")).run P w)) := by
      intro v' hv'
      have hkk : ∀ ms, k ≠ .interface ms := fun ms e => hk ms e
      rcases hv' with ⟨dt, u, rfl⟩ | rfl
      · simp only [Instr.typeAssert, Sem.run_bind, run_underlying hu, Result.andThen_ok]
        cases k <;> first | (exact absurd rfl (hkk _)) | (by_cases e : dt = t <;> cases ok <;> simp [e])
      · simp only [Instr.typeAssert, Sem.run_bind, run_underlying hu, Result.andThen_ok]
        cases k <;> first | (exact absurd rfl (hkk _)) | (cases ok <;> simp)
    split at hK
    · obtain rfl := rep_val hx
      obtain ⟨rfl, z, zv, rfl, h1, h2⟩ := fails hK
      exact ⟨_, by rw [hni _ (.inr rfl)]; simp [h1], two false h2⟩
    · split at hK
      · rename_i dt d' hif
        obtain ⟨u, rfl, hu2⟩ := ifcOf_rep hx hif
        split at hK
        · rename_i hdt
          cases hK
          exact ⟨_, by rw [hni _ (.inl ⟨_, _, rfl⟩)]; simp [hdt], holds hu2⟩
        · rename_i hdt
          obtain ⟨rfl, z, zv, rfl, h1, h2⟩ := fails hK
          exact ⟨_, by rw [hni _ (.inl ⟨_, _, rfl⟩)]; simp [hdt, h1], two false h2⟩
      · cases hK
  · cases hK

/-! ### clear -/
theorem updV_get : ∀ (us vs : List Value) (o k : Nat), o + us.length ≤ vs.length → (updV vs o us)[k]? = if o ≤ k ∧ k < o + us.length then us[k - o]? else vs[k]?
  | [], vs, o, k, h => by
    rw [updV, if_neg (by simp)]
  | u :: us, vs, o, k, h => by
    rw [updV, updV_get us (vs.set o u) (o + 1) k (by simp at h ⊢; omega)]
    simp only [List.length_cons] at h ⊢
    by_cases h1 : o + 1 ≤ k ∧ k < o + 1 + us.length
    · rw [if_pos h1, if_pos ⟨by omega, by omega⟩]
      have : k - o = (k - (o + 1)) + 1 := by omega
      rw [this, List.getElem?_cons_succ]
    · rw [if_neg h1]
      by_cases h2 : k = o
      · subst h2
        rw [if_pos ⟨by omega, by omega⟩, Nat.sub_self, List.getElem?_set_self (by omega)]
        rfl
      · rw [if_neg (by omega), List.getElem?_set_ne (by omega)]
theorem clear_gives (h : Rel P base w0 Γ H w) {t ty : TypeId} {x : D} {v : Value} {H' : Heap} (hx : Rep P Γ x v) (hK : eClear P t x H = some H') : ∃ w', (Builtin.clear_ #[t] ty #[v]).run P w = .ok (.tuple #[]) w' ∧ Rel P base w0 Γ H' w' := by
  have none_run : ∀ (u : TypeDesc) (a : Option Addr) (cap : Nat), P.underlying t = some u → (Builtin.clear_ #[t] ty #[.slice a 0 cap]).run P w = .ok (.tuple #[]) w := by
    intro u a cap hu
    cases a <;> simp [Builtin.clear_, run_underlying hu]
  unfold eClear at hK
  split at hK
  · rename_i u g e hu
    cases hK
    cases hx with
    | nil => exact ⟨w, none_run _ _ _ hu, h⟩
    | slice _ _ _ a ad cap vs => exact ⟨w, none_run _ _ _ hu, h⟩
  · rename_i e i e' off len hu
    split at hK
    · rename_i e2 l hi
      split at hK
      · rename_i hc
        obtain ⟨rfl, rfl, hlen, hsz⟩ := hc
        split at hK
        · rename_i z hz
          split at hK
          · rename_i hone
            cases hx with
            | row _ _ _ _ y hy hye hcc hm =>
              split at hK
              · rename_i h0
                cases hK
                subst h0
                exact ⟨w, none_run _ _ _ hu, h⟩
              · rename_i h0
                cases hK
                obtain ⟨i0, zv, hi0, hv0, _, _, _, hzz, _⟩ := zeroElem_spec hz
                have hzr : Rep P Γ z zv := by rw [hzz]; exact .ofZero P Γ zv
                have hz1 := oneD_rep hone hzr
                obtain ⟨hb, hlt, k1, k2, k3, k4, vs, T, fr, x3, x4, ⟨x51, x52, x5⟩, x6⟩ := h.objAt hi hy
                have hcell : ∀ j, j < vs.size → w.cell? ⟨y.b, j, none⟩ = vs[j]? := fun j _ => cell_of_row w y.b j vs T fr x3
                have hfz : ∀ j, j < vs.size → w.frozen? ⟨y.b, j, none⟩ = false := by
                  intro j hj
                  simp only [World.frozen?, x3]
                  rcases x5 with rfl | x5
                  · simp
                  · simp; omega
                rw [hsz, Nat.mul_one] at x4
                have hrun := Lib.run_clear_slice (P := P) w t e ty zv hu (fun w => by simp [zeroValue, typeInfo, hi0, hv0]) (cells_one hz1) hz1 y.b (y.o + off) len (y.cap - off) (by omega)
                  (fun j hj => by rw [hcell _ (by omega)]; simp; omega) (fun j hj => hfz _ (by omega))
                have hvs : w.heap[y.b]? = some (.cells vs.toList.toArray T fr) := by simpa using x3
                have hl1 : (l.take off).length = off := by simp; omega
                have hlen2 : (l.take off ++ List.replicate len z ++ l.drop (off + len)).length = l.length := by simp; omega
                have hzc : (cellsD z).length = 1 := by
                  cases z <;> simp_all [oneD, cellsD]
                have hcs : ∀ d ∈ l.take off ++ List.replicate len z ++ l.drop (off + len), (cellsD d).length = szOf P e := by
                  intro d hd
                  simp only [List.mem_append] at hd
                  rcases hd with (hd | hd) | hd
                  · exact k4 d (List.mem_of_mem_take hd)
                  · rw [List.eq_of_mem_replicate hd, hsz, hzc]
                  · exact k4 d (List.mem_of_mem_drop hd)
                have hz1' : cellsD z = [z] := by
                  cases z <;> simp_all [oneD, cellsD]
                have fl : flat (l.take off ++ List.replicate len z ++ l.drop (off + len)) = (flat l).take off ++ List.replicate len z ++ (flat l).drop (off + len) := by
                  rw [flat_append, flat_append, flat_take k4, flat_drop k4, hsz, Nat.mul_one, Nat.mul_one]
                  congr 2
                  clear hlen2 hcs hrun h0 hlen hcc
                  induction len with
                  | zero => rfl
                  | succ n ih => rw [List.replicate_succ, flat_cons, ih, hz1']; rfl
                have hfll : (flat l).length = l.length := by
                  clear fl hlen2 hcs hlen hl1 x6 k3 hi
                  induction l with
                  | nil => rfl
                  | cons a l ih => rw [flat_cons, List.length_append, k4 a (by simp), hsz, ih (fun d hd => k4 d (by simp [hd])), List.length_cons]; omega
                refine ⟨w.setCells y.b (y.o + off) (List.replicate len zv), by rw [hsz, Nat.mul_one]; exact hrun, h.setObj hi hy (below_setCells hb _ _ _ h.below) (by rw [size_setCells]; exact Nat.le_refl _) (fun k _ hk => heap_setCells_other y.b k hk _ _ _) ?_⟩
                rw [heap_setCells y.b T fr _ _ w _ hvs]
                refine ⟨k1, k2, by rw [hlen2]; exact k3, hcs, _, T, fr, rfl, by simp [updV_length]; rw [hsz]; omega, ⟨x51, x52, by simpa [updV_length] using x5⟩, fun j d hj => ?_⟩
                rw [fl] at hj
                have hjl : j < l.length := by
                  have := (List.getElem?_eq_some_iff.1 hj).1
                  simp only [List.length_append, List.length_take, List.length_replicate, List.length_drop, hfll] at this
                  omega
                have hget : ((updV vs.toList (y.o + off) (List.replicate len zv)).toArray)[y.o + j]? = if off ≤ j ∧ j < off + len then some zv else vs[y.o + j]? := by
                  rw [List.getElem?_toArray, updV_get _ _ _ _ (by simp; omega)]
                  simp only [List.length_replicate]
                  by_cases hq : off ≤ j ∧ j < off + len
                  · rw [if_pos ⟨by omega, by omega⟩, if_pos hq, List.getElem?_replicate, if_pos (by omega)]
                  · rw [if_neg (by omega), if_neg hq]; simp
                rw [hget]
                by_cases hq : off ≤ j ∧ j < off + len
                · rw [if_pos hq]
                  rw [List.getElem?_append_left (by simp [hfll]; omega), List.getElem?_append_right (by simp [hfll]; omega), List.getElem?_replicate] at hj
                  split at hj
                  · cases hj; exact ⟨zv, rfl, hzr, hz1⟩
                  · cases hj
                · rw [if_neg hq]
                  refine x6 j d ?_
                  by_cases h2 : j < off
                  · rw [List.append_assoc, List.getElem?_append_left (by simp [hfll]; omega), List.getElem?_take, if_pos h2] at hj
                    exact hj
                  · rw [List.getElem?_append_right (by simp [hfll]; omega), List.getElem?_drop] at hj
                    simp only [List.length_append, List.length_take, List.length_replicate, hfll] at hj
                    rwa [show off + len + (j - (min off l.length + len)) = j by omega] at hj
          · cases hK
        · cases hK
      · cases hK
    · cases hK
  · cases hK
end
end Go.Pv
