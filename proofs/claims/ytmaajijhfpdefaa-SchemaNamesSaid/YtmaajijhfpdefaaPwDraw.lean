/- Operations whose order is left open. -/
import Derived.Test.YtmaajijhfpdefaaPwCode
namespace Go.Pw
open Go.RowKit

/-! ### More is asked -/
theorem pPart_mono {P : Program} {t : TypeId} {cs : List D} {off : Nat} {K K' : D → Prop} (hk : ∀ d, K d → K' d) (h : pPart P t cs off K) : pPart P t cs off K' := by
  unfold pPart at *
  split at h <;> first | exact ⟨h.1, hk _ h.2⟩ | exact h
theorem intBin_mono {op : BinOp} {k : IntKind} {a b : Int} {K K' : D → Prop} (hk : ∀ d, K d → K' d) (h : intBin op k a b K) : intBin op k a b K' := by
  cases op <;> simp only [intBin] at * <;> first | exact hk _ h | exact ⟨h.1, hk _ h.2⟩ | exact h
theorem strBin_mono {op : BinOp} {a b : ByteArray} {K K' : D → Prop} (hk : ∀ d, K d → K' d) (h : strBin op a b K) : strBin op a b K' := by
  cases op <;> simp only [strBin] at * <;> first | exact hk _ h | exact ⟨h.1, hk _ h.2⟩ | exact h
theorem pEq_mono {op : BinOp} {r : Option Bool} {K K' : D → Prop} (hk : ∀ d, K d → K' d) (h : pEq op r K) : pEq op r K' := by
  unfold pEq at *
  split at h <;> first | exact hk _ h | exact h
theorem pBin_mono {P : Program} {op : BinOp} {t : TypeId} {x y : D} {K K' : D → Prop} (hk : ∀ d, K d → K' d) (h : pBin P op t x y K) : pBin P op t x y K' := by
  unfold pBin at *
  split at h
  · split at h
    · exact ⟨h.1, hk _ h.2⟩
    · exact ⟨h.1, hk _ h.2⟩
    · exact ⟨h.1, intBin_mono hk h.2⟩
  · exact strBin_mono hk h
  · split at h
    · exact ⟨h.1, hk _ h.2⟩
    · exact ⟨h.1, hk _ h.2⟩
    · exact h
  · split at h
    · exact pEq_mono hk h
    · exact h
  · exact ⟨h.1, pEq_mono hk h.2⟩
  · exact ⟨h.1, pEq_mono hk h.2⟩
  · exact h
theorem pUn_mono {op : UnOp} {x : D} {K K' : D → Prop} (hk : ∀ d, K d → K' d) (h : pUn op x K) : pUn op x K' := by
  unfold pUn at *
  split at h <;> first | exact hk _ h | exact h
theorem pIndex_mono {P : Program} {t : TypeId} {x i : D} {K K' : D → Prop} (hk : ∀ d, K d → K' d) (h : pIndex P t x i K) : pIndex P t x i K' := by
  unfold pIndex at *
  split at h
  · exact ⟨h.1, h.2.1, h.2.2.1, hk _ h.2.2.2⟩
  · split at h
    · exact ⟨h.1, h.2.1, h.2.2.1, pPart_mono hk h.2.2.2⟩
    · exact h
  · exact h
theorem pField_mono {P : Program} {t : TypeId} {x : D} {f : Nat} {K K' : D → Prop} (hk : ∀ d, K d → K' d) (h : pField P t x f K) : pField P t x f K' := by
  unfold pField at *
  split at h
  · split at h
    · exact pPart_mono hk h
    · exact h
  · exact h
theorem pFieldAddr_mono {P : Program} {t : TypeId} {x : D} {f : Nat} {K K' : D → Prop} (hk : ∀ d, K d → K' d) (h : pFieldAddr P t x f K) : pFieldAddr P t x f K' := by
  unfold pFieldAddr at *
  split at h
  · split at h
    · refine ⟨h.1, ?_⟩
      have h2 := h.2
      cases x <;> first | exact hk _ h2 | exact h2
    · exact h
  · exact h
theorem pIndexAddr_mono {P : Program} {t : TypeId} {x i : D} {K K' : D → Prop} (hk : ∀ d, K d → K' d) (h : pIndexAddr P t x i K) : pIndexAddr P t x i K' := by
  unfold pIndexAddr at *
  split at h
  · split at h
    · exact ⟨h.1, h.2.1, h.2.2.1, h.2.2.2.1, hk _ h.2.2.2.2⟩
    · exact ⟨h.1, h.2.1, h.2.2.1, h.2.2.2.1, hk _ h.2.2.2.2⟩
    · exact ⟨h.1, h.2.1, h.2.2.1, hk _ h.2.2.2⟩
    · exact ⟨h.1, h.2.1, h.2.2.1, hk _ h.2.2.2⟩
    · exact h
  · exact h
theorem pLoad_mono {P : Program} {t : TypeId} {x : D} {H : Heap} {K K' : D → Prop} (hk : ∀ d, K d → K' d) (h : pLoad P t x H K) : pLoad P t x H K' := by
  unfold pLoad at *
  split at h
  · exact pPart_mono hk h
  · split at h
    · exact pPart_mono hk h
    · exact h
  · exact h
theorem pExtract_mono {x : D} {i : Nat} {K K' : D → Prop} (hk : ∀ d, K d → K' d) (h : pExtract x i K) : pExtract x i K' := by
  unfold pExtract at *
  split at h
  · exact ⟨h.1, hk _ h.2⟩
  · exact h
theorem pBounds_mono {lo hi : Option D} {n : Nat} {K K' : Nat → Nat → Prop} (hk : ∀ a b, K a b → K' a b) (h : pBounds lo hi n K) : pBounds lo hi n K' := by
  unfold pBounds at *
  split at h
  · exact hk _ _ h
  · exact ⟨h.1, h.2.1, hk _ _ h.2.2⟩
  · exact ⟨h.1, h.2.1, hk _ _ h.2.2⟩
  · exact ⟨h.1, h.2.1, h.2.2.1, hk _ _ h.2.2.2⟩
  · exact h
theorem pSlice_mono {P : Program} {t : TypeId} {x : D} {lo hi : Option D} {K K' : D → Prop} (hk : ∀ d, K d → K' d) (h : pSlice P t x lo hi K) : pSlice P t x lo hi K' := by
  unfold pSlice at *
  split at h
  · exact pBounds_mono (fun _ _ q => hk _ q) h
  · exact ⟨h.1, h.2.1, pBounds_mono (fun _ _ q => hk _ q) h.2.2⟩
  · exact ⟨h.1, h.2.1, pBounds_mono (fun _ _ q => hk _ q) h.2.2⟩
  · exact ⟨h.1, h.2.1, pBounds_mono (fun _ _ q => hk _ q) h.2.2⟩
  · exact h
theorem pConvert_mono {P : Program} {s d : TypeId} {x : D} {H : Heap} {K K' : D → Heap → Prop} (hk : ∀ d H, K d H → K' d H) (h : pConvert P s d x H K) : pConvert P s d x H K' := by
  unfold pConvert at *
  split at h
  · exact hk _ _ h
  · exact hk _ _ h
  · exact ⟨h.1, h.2.1, h.2.2.1, h.2.2.2.1, hk _ _ h.2.2.2.2⟩
  · refine ⟨h.1, ?_⟩
    have h2 := h.2
    split at h2
    · exact ⟨h2.1, h2.2.1, hk _ _ h2.2.2⟩
    · exact h2
  · exact ⟨h.1, h.2.1, h.2.2.1, h.2.2.2.imp (hk _ _) (fun q i a b => hk _ _ (q i a b))⟩
  · exact h
theorem pMakeInterface_mono {P : Program} {t : TypeId} {x : D} {K K' : D → Prop} (hk : ∀ d, K d → K' d) (h : pMakeInterface P t x K) : pMakeInterface P t x K' := by
  unfold pMakeInterface at *
  split at h
  · exact h
  · split at h <;> exact hk _ h
  · exact h
theorem pNilCheck_mono {x : D} {K K' : D → Prop} (hk : ∀ d, K d → K' d) (h : pNilCheck x K) : pNilCheck x K' := by
  unfold pNilCheck at *
  split at h <;> first | exact hk _ h | exact h
theorem pAppend_mono {P : Program} {t : TypeId} {s x : D} {H : Heap} {K K' : D → Heap → Prop} (hk : ∀ d H, K d H → K' d H) (h : pAppend P t s x H K) : pAppend P t s x H K' := by
  unfold pAppend at *
  split at h
  · split at h
    · refine ⟨h.1, h.2.1, h.2.2.1, ?_⟩
      have h3 := h.2.2.2
      split at h3
      · refine ⟨h3.1, h3.2.1, h3.2.2.1, h3.2.2.2.imp ?_ ?_⟩
        · rintro ⟨a, b, c, d⟩
          exact ⟨a, b, fun q => hk _ _ (c q), fun q g x y => hk _ _ (d q g x y)⟩
        · rintro ⟨a, b, c, d⟩
          exact ⟨a, b, c, fun g x y => hk _ _ (d g x y)⟩
      · exact h3
    · exact h
  · exact h
theorem pPick_mono {c a b : D} {K K' : D → Prop} (hk : ∀ d, K d → K' d) (h : pPick c a b K) : pPick c a b K' := by
  unfold pPick at *
  split at h
  · exact ⟨fun e => hk _ (h.1 e), fun e => hk _ (h.2 e)⟩
  · exact h
theorem pBuild_mono {P : Program} {t : TypeId} {ps : List (Nat × D)} {K K' : D → Prop} (hk : ∀ d, K d → K' d) (h : pBuild P t ps K) : pBuild P t ps K' := by
  unfold pBuild at *
  split at h
  · refine ⟨h.1, ?_⟩
    have h2 := h.2
    split at h2
    · split at h2
      · exact hk _ h2
      · exact h2
    · split at h2
      · refine ⟨h2.1, ?_⟩
        have h3 := h2.2
        split at h3
        · exact hk _ h3
        · exact h3
      · exact h2
  · exact h
theorem pBuildSlice_mono {P : Program} {t : TypeId} {n : Nat} {ps : List (Nat × D)} {H : Heap} {K K' : D → Heap → Prop} (hk : ∀ d H, K d H → K' d H) (h : pBuildSlice P t n ps H K) : pBuildSlice P t n ps H K' := by
  unfold pBuildSlice at *
  split at h
  · exact ⟨h.1, h.2.1, h.2.2.1, h.2.2.2.1, h.2.2.2.2.1, h.2.2.2.2.2.imp (fun q i a b => hk _ _ (q i a b)) (fun q i a b => hk _ _ (q i a b))⟩
  · exact h
theorem pMakeSlice_mono {P : Program} {t : TypeId} {n c : D} {H : Heap} {K K' : D → Heap → Prop} (hk : ∀ d H, K d H → K' d H) (h : pMakeSlice P t n c H K) : pMakeSlice P t n c H K' := by
  unfold pMakeSlice at *
  split at h
  · split at h
    · exact ⟨h.1, h.2.1, h.2.2.1, h.2.2.2.1, h.2.2.2.2.1, h.2.2.2.2.2.imp (fun q i a b => hk _ _ (q i a b)) (fun q i a b => hk _ _ (q i a b))⟩
    · exact h
  · exact h
theorem pAlloc_mono {P : Program} {t : TypeId} {H : Heap} {K K' : D → Heap → Prop} (hk : ∀ d H, K d H → K' d H) (h : pAlloc P t H K) : pAlloc P t H K' := by
  unfold pAlloc at *
  split at h
  · exact fun i a b => hk _ _ (h i a b)
  · exact h
theorem pBox_mono {d : D} {H : Heap} {K K' : D → Heap → Prop} (hk : ∀ d H, K d H → K' d H) (h : pBox d H K) : pBox d H K' :=
  ⟨h.1, h.2.imp (fun q i a b => hk _ _ (q i a b)) (hk _ _)⟩
theorem pStore_mono {P : Program} {t : TypeId} {p d : D} {H : Heap} {K K' : Heap → Prop} (hk : ∀ H, K H → K' H) (h : pStore P t p d H K) : pStore P t p d H K' := by
  unfold pStore at *
  split at h
  · split at h
    · exact ⟨h.1, h.2.1, h.2.2.1, h.2.2.2.1, hk _ h.2.2.2.2⟩
    · exact h
  · exact h
theorem pLen_mono {P : Program} {t : TypeId} {x : D} {K K' : D → Prop} (hk : ∀ d, K d → K' d) (h : pLen P t x K) : pLen P t x K' := by
  unfold pLen at *
  split at h <;> first | exact hk _ h | exact h
theorem pMinMax_two {mx : Bool} {x y : D} {rest : List D} {K : D → Prop} (h : pMinMax mx (x :: y :: rest) K) : ∃ k a b, x = .val (.int k a) ∧ y = .val (.int k b) ∧
    pMinMax mx (.val (.int k (if mx then (if a < b then b else a) else (if b < a then b else a))) :: rest) K := by
  unfold pMinMax at h
  split at h
  · rename_i e; simp at e
  · rename_i e; simp at e
  · rename_i k a k' b r e
    simp only [List.cons.injEq] at e
    obtain ⟨rfl, rfl, rfl⟩ := e
    obtain ⟨rfl, h⟩ := h
    exact ⟨k, a, b, rfl, rfl, h⟩
  · exact h.elim
theorem pMinMax_int {mx : Bool} {k : IntKind} {a b : Int} {rest : List D} {K : D → Prop} (h : pMinMax mx (.val (.int k (if mx then (if a < b then b else a) else (if b < a then b else a))) :: rest) K) :
    pMinMax mx (.val (.int k a) :: .val (.int k b) :: rest) K := by
  rw [pMinMax]; exact ⟨rfl, h⟩
theorem pMinMax_mono {K K' : D → Prop} (hk : ∀ d, K d → K' d) (mx : Bool) : ∀ (n : Nat) (l : List D), l.length ≤ n → pMinMax mx l K → pMinMax mx l K'
  | _, [], _, h => by simp [pMinMax] at h
  | _, [x], _, h => by simp only [pMinMax] at *; exact hk _ h
  | 0, x :: y :: rest, hn, h => by simp at hn
  | n + 1, x :: y :: rest, hn, h => by
    obtain ⟨k, a, b, rfl, rfl, h'⟩ := pMinMax_two h
    exact pMinMax_int (pMinMax_mono hk mx n _ (by simpa using hn) h')
theorem pCall_mono {P : Program} {c : Call} {st : PSt} {K K' : D → Heap → Prop} (hk : ∀ d H, K d H → K' d H) (h : pCall P c st K) : pCall P c st K' := by
  unfold pCall at *
  split at h
  · split at h
    · exact h.mono hk
    · exact h.mono hk
    · exact h
  · split at h
    · exact pLen_mono (fun d => hk d _) h
    · exact h
  · split at h
    · exact ⟨h.1, pAppend_mono hk h.2⟩
    · exact h
  · exact pMinMax_mono (fun d => hk d _) _ _ _ (Nat.le_refl _) h
  · exact pMinMax_mono (fun d => hk d _) _ _ _ (Nat.le_refl _) h
  · exact h
theorem pop_mono {P : Program} {o : Oper} {st : PSt} {K K' : D → Heap → Prop} (hk : ∀ d H, K d H → K' d H) (h : pop P o st K) : pop P o st K' := by
  unfold pop at *
  split at h
  · exact hk _ _ h
  · exact hk _ _ h
  · exact pPick_mono (fun d => hk d _) h
  · exact pBin_mono (fun d => hk d _) h
  · exact pUn_mono (fun d => hk d _) h
  · exact pConvert_mono hk h
  · exact pIndex_mono (fun d => hk d _) h
  · exact pIndexAddr_mono (fun d => hk d _) h
  · exact pSlice_mono (fun d => hk d _) h
  · exact pField_mono (fun d => hk d _) h
  · exact pFieldAddr_mono (fun d => hk d _) h
  · exact pLoad_mono (fun d => hk d _) h
  · exact pStore_mono (hk _) h
  · exact pExtract_mono (fun d => hk d _) h
  · exact pMakeInterface_mono (fun d => hk d _) h
  · exact hk _ _ h
  · exact pNilCheck_mono (fun d => hk d _) h
  · exact pAlloc_mono hk h
  · exact pBox_mono hk h
  · exact pBuild_mono (fun d => hk d _) h
  · exact pBuildSlice_mono hk h
  · exact pMakeSlice_mono hk h
  · exact pCall_mono hk h
  · exact h

/-! ### Operations whose value hangs on their operands alone -/
/-- 0: on nothing else; 1: on what memory holds, too; 2: all others. -/
def kindOf (o : Oper) : Nat :=
  match o.op with
  | .move _ | .assign _ | .pick .. | .binOp .. | .unOp .. | .index .. | .indexAddr .. | .slice .. | .field .. | .fieldAddr .. | .extract .. | .makeInterface .. | .makeFunc .. | .nilCheck _ | .build .. => 0
  | .call { callee := .builtin .len, .. } | .call { callee := .builtin .min, .. } | .call { callee := .builtin .max, .. } => 0
  | .load .. => 1
  | _ => 2

/-- At these operands, o's value is d. -/
def CalmAt (P : Program) (o : Oper) (st : PSt) (d : D) : Prop :=
  ∀ (st' : PSt) (K : D → Heap → Prop), (∀ x ∈ o.op.operands, st'.ev x = st.ev x) → (kindOf o = 0 ∨ st'.H = st.H) → (K d st'.H ↔ pop P o st' K)

theorem pPart_one {P : Program} {t : TypeId} {cs : List D} {off : Nat} {K : D → Prop} (h : pPart P t cs off K) : ∃ d, K d ∧ ∀ K' : D → Prop, K' d ↔ pPart P t cs off K' := by
  unfold pPart at *
  split at h <;> first | exact ⟨_, h.2, fun K' => ⟨fun k => ⟨h.1, k⟩, fun q => q.2⟩⟩ | exact h.elim
theorem intBin_one {op : BinOp} {k : IntKind} {a b : Int} {K : D → Prop} (h : intBin op k a b K) : ∃ d, K d ∧ ∀ K' : D → Prop, K' d ↔ intBin op k a b K' := by
  cases op <;> simp only [intBin] at * <;> first | exact ⟨_, h, fun K' => Iff.rfl⟩ | exact ⟨_, h.2, fun K' => ⟨fun k => ⟨h.1, k⟩, fun q => q.2⟩⟩ | exact h.elim
theorem strBin_one {op : BinOp} {a b : ByteArray} {K : D → Prop} (h : strBin op a b K) : ∃ d, K d ∧ ∀ K' : D → Prop, K' d ↔ strBin op a b K' := by
  cases op <;> simp only [strBin] at * <;> first | exact ⟨_, h, fun K' => Iff.rfl⟩ | exact ⟨_, h.2, fun K' => ⟨fun k => ⟨h.1, k⟩, fun q => q.2⟩⟩ | exact h.elim
theorem pEq_one {op : BinOp} {r : Option Bool} {K : D → Prop} (h : pEq op r K) : ∃ d, K d ∧ ∀ K' : D → Prop, K' d ↔ pEq op r K' := by
  unfold pEq at *
  split at h <;> first | exact ⟨_, h, fun K' => Iff.rfl⟩ | exact h.elim
theorem pBin_one {P : Program} {op : BinOp} {t : TypeId} {x y : D} {K : D → Prop} (h : pBin P op t x y K) : ∃ d, K d ∧ ∀ K' : D → Prop, K' d ↔ pBin P op t x y K' := by
  unfold pBin at *
  split at h
  · split at h
    · exact ⟨_, h.2, fun K' => ⟨fun k => ⟨h.1, k⟩, fun q => q.2⟩⟩
    · exact ⟨_, h.2, fun K' => ⟨fun k => ⟨h.1, k⟩, fun q => q.2⟩⟩
    · obtain ⟨d, h1, h2⟩ := intBin_one h.2
      exact ⟨d, h1, fun K' => ⟨fun k => ⟨h.1, (h2 K').1 k⟩, fun q => (h2 K').2 q.2⟩⟩
  · exact strBin_one h
  · split at h
    · exact ⟨_, h.2, fun K' => ⟨fun k => ⟨h.1, k⟩, fun q => q.2⟩⟩
    · exact ⟨_, h.2, fun K' => ⟨fun k => ⟨h.1, k⟩, fun q => q.2⟩⟩
    · exact h.elim
  · split at h
    · exact pEq_one h
    · exact h.elim
  · obtain ⟨d, h1, h2⟩ := pEq_one h.2
    exact ⟨d, h1, fun K' => ⟨fun k => ⟨h.1, (h2 K').1 k⟩, fun q => (h2 K').2 q.2⟩⟩
  · obtain ⟨d, h1, h2⟩ := pEq_one h.2
    exact ⟨d, h1, fun K' => ⟨fun k => ⟨h.1, (h2 K').1 k⟩, fun q => (h2 K').2 q.2⟩⟩
  · exact h.elim
theorem pUn_one {op : UnOp} {x : D} {K : D → Prop} (h : pUn op x K) : ∃ d, K d ∧ ∀ K' : D → Prop, K' d ↔ pUn op x K' := by
  unfold pUn at *
  split at h <;> first | exact ⟨_, h, fun K' => Iff.rfl⟩ | exact h.elim
theorem pIndex_one {P : Program} {t : TypeId} {x i : D} {K : D → Prop} (h : pIndex P t x i K) : ∃ d, K d ∧ ∀ K' : D → Prop, K' d ↔ pIndex P t x i K' := by
  unfold pIndex at *
  split at h
  · exact ⟨_, h.2.2.2, fun K' => ⟨fun k => ⟨h.1, h.2.1, h.2.2.1, k⟩, fun q => q.2.2.2⟩⟩
  · split at h
    · obtain ⟨d, h1, h2⟩ := pPart_one h.2.2.2
      exact ⟨d, h1, fun K' => ⟨fun k => ⟨h.1, h.2.1, h.2.2.1, (h2 K').1 k⟩, fun q => (h2 K').2 q.2.2.2⟩⟩
    · exact h.elim
  · exact h.elim
theorem pField_one {P : Program} {t : TypeId} {x : D} {f : Nat} {K : D → Prop} (h : pField P t x f K) : ∃ d, K d ∧ ∀ K' : D → Prop, K' d ↔ pField P t x f K' := by
  unfold pField at *
  split at h
  · split at h
    · exact pPart_one h
    · exact h.elim
  · exact h.elim
theorem pFieldAddr_one {P : Program} {t : TypeId} {x : D} {f : Nat} {K : D → Prop} (h : pFieldAddr P t x f K) : ∃ d, K d ∧ ∀ K' : D → Prop, K' d ↔ pFieldAddr P t x f K' := by
  unfold pFieldAddr at *
  split at h
  · split at h
    · have h2 := h.2
      cases x <;> first | exact ⟨_, h2, fun K' => ⟨fun k => ⟨h.1, k⟩, fun q => q.2⟩⟩ | exact h2.elim
    · exact h.elim
  · exact h.elim
theorem pIndexAddr_one {P : Program} {t : TypeId} {x i : D} {K : D → Prop} (h : pIndexAddr P t x i K) : ∃ d, K d ∧ ∀ K' : D → Prop, K' d ↔ pIndexAddr P t x i K' := by
  unfold pIndexAddr at *
  split at h
  · split at h
    · exact ⟨_, h.2.2.2.2, fun K' => ⟨fun k => ⟨h.1, h.2.1, h.2.2.1, h.2.2.2.1, k⟩, fun q => q.2.2.2.2⟩⟩
    · exact ⟨_, h.2.2.2.2, fun K' => ⟨fun k => ⟨h.1, h.2.1, h.2.2.1, h.2.2.2.1, k⟩, fun q => q.2.2.2.2⟩⟩
    · exact ⟨_, h.2.2.2, fun K' => ⟨fun k => ⟨h.1, h.2.1, h.2.2.1, k⟩, fun q => q.2.2.2⟩⟩
    · exact ⟨_, h.2.2.2, fun K' => ⟨fun k => ⟨h.1, h.2.1, h.2.2.1, k⟩, fun q => q.2.2.2⟩⟩
    · exact h.elim
  · exact h.elim
theorem pLoad_one {P : Program} {t : TypeId} {x : D} {H : Heap} {K : D → Prop} (h : pLoad P t x H K) : ∃ d, K d ∧ ∀ K' : D → Prop, K' d ↔ pLoad P t x H K' := by
  unfold pLoad at *
  split at h
  · exact pPart_one h
  · split at h
    · exact pPart_one h
    · exact h.elim
  · exact h.elim
theorem pExtract_one {x : D} {i : Nat} {K : D → Prop} (h : pExtract x i K) : ∃ d, K d ∧ ∀ K' : D → Prop, K' d ↔ pExtract x i K' := by
  unfold pExtract at *
  split at h
  · exact ⟨_, h.2, fun K' => ⟨fun k => ⟨h.1, k⟩, fun q => q.2⟩⟩
  · exact h.elim
theorem pBounds_one {lo hi : Option D} {n : Nat} {K : Nat → Nat → Prop} (h : pBounds lo hi n K) : ∃ a b, K a b ∧ ∀ K' : Nat → Nat → Prop, K' a b ↔ pBounds lo hi n K' := by
  unfold pBounds at *
  split at h
  · exact ⟨_, _, h, fun K' => Iff.rfl⟩
  · exact ⟨_, _, h.2.2, fun K' => ⟨fun k => ⟨h.1, h.2.1, k⟩, fun q => q.2.2⟩⟩
  · exact ⟨_, _, h.2.2, fun K' => ⟨fun k => ⟨h.1, h.2.1, k⟩, fun q => q.2.2⟩⟩
  · exact ⟨_, _, h.2.2.2, fun K' => ⟨fun k => ⟨h.1, h.2.1, h.2.2.1, k⟩, fun q => q.2.2.2⟩⟩
  · exact h.elim
theorem pSlice_one {P : Program} {t : TypeId} {x : D} {lo hi : Option D} {K : D → Prop} (h : pSlice P t x lo hi K) : ∃ d, K d ∧ ∀ K' : D → Prop, K' d ↔ pSlice P t x lo hi K' := by
  unfold pSlice at *
  split at h
  · obtain ⟨a, b, h1, h2⟩ := pBounds_one h
    exact ⟨_, h1, fun K' => h2 (fun l h => K' (.val (.string ⟨(List.drop l (List.take h _)).toArray⟩)))⟩
  · obtain ⟨a, b, h1, h2⟩ := pBounds_one h.2.2
    exact ⟨_, h1, fun K' => ⟨fun k => ⟨h.1, h.2.1, (h2 (fun a b => K' (.slice 0 _ (List.drop a (List.take b _))))).1 k⟩, fun q => (h2 (fun a b => K' (.slice 0 _ (List.drop a (List.take b _))))).2 q.2.2⟩⟩
  · obtain ⟨a, b, h1, h2⟩ := pBounds_one h.2.2
    exact ⟨_, h1, fun K' => ⟨fun k => ⟨h.1, h.2.1, (h2 (fun a b => K' (subArr _ _ _ _ a b))).1 k⟩, fun q => (h2 (fun a b => K' (subArr _ _ _ _ a b))).2 q.2.2⟩⟩
  · obtain ⟨a, b, h1, h2⟩ := pBounds_one h.2.2
    exact ⟨_, h1, fun K' => ⟨fun k => ⟨h.1, h.2.1, (h2 (fun a b => K' (subArr _ _ _ _ a b))).1 k⟩, fun q => (h2 (fun a b => K' (subArr _ _ _ _ a b))).2 q.2.2⟩⟩
  · exact h.elim
theorem pMakeInterface_one {P : Program} {t : TypeId} {x : D} {K : D → Prop} (h : pMakeInterface P t x K) : ∃ d, K d ∧ ∀ K' : D → Prop, K' d ↔ pMakeInterface P t x K' := by
  unfold pMakeInterface at *
  split at h
  · exact h.elim
  · split at h <;> exact ⟨_, h, fun K' => Iff.rfl⟩
  · exact h.elim
theorem pNilCheck_one {x : D} {K : D → Prop} (h : pNilCheck x K) : ∃ d, K d ∧ ∀ K' : D → Prop, K' d ↔ pNilCheck x K' := by
  unfold pNilCheck at *
  split at h <;> first | exact ⟨_, h, fun K' => Iff.rfl⟩ | exact h.elim
theorem pPick_one {c a b : D} {K : D → Prop} (h : pPick c a b K) : ∃ d, K d ∧ ∀ K' : D → Prop, K' d ↔ pPick c a b K' := by
  unfold pPick at *
  split at h
  · rename_i t
    cases t
    · exact ⟨_, h.2 rfl, fun K' => ⟨fun k => ⟨fun e => (by cases e), fun _ => k⟩, fun q => q.2 rfl⟩⟩
    · exact ⟨_, h.1 rfl, fun K' => ⟨fun k => ⟨fun _ => k, fun e => (by cases e)⟩, fun q => q.1 rfl⟩⟩
  · exact h.elim
theorem pBuild_one {P : Program} {t : TypeId} {ps : List (Nat × D)} {K : D → Prop} (h : pBuild P t ps K) : ∃ d, K d ∧ ∀ K' : D → Prop, K' d ↔ pBuild P t ps K' := by
  unfold pBuild at *
  split at h
  · have h2 := h.2
    split at h2
    · split at h2
      · exact ⟨_, h2, fun K' => ⟨fun k => ⟨h.1, k⟩, fun q => q.2⟩⟩
      · exact h2.elim
    · split at h2
      · have h3 := h2.2
        split at h3
        · exact ⟨_, h3, fun K' => ⟨fun k => ⟨h.1, h2.1, k⟩, fun q => q.2.2⟩⟩
        · exact h3.elim
      · exact h2.elim
  · exact h.elim
theorem pLen_one {P : Program} {t : TypeId} {x : D} {K : D → Prop} (h : pLen P t x K) : ∃ d, K d ∧ ∀ K' : D → Prop, K' d ↔ pLen P t x K' := by
  unfold pLen at *
  split at h <;> first | exact ⟨_, h, fun K' => Iff.rfl⟩ | exact h.elim
theorem pMinMax_back {mx : Bool} {k : IntKind} {a b : Int} {rest : List D} {K : D → Prop} (h : pMinMax mx (.val (.int k a) :: .val (.int k b) :: rest) K) :
    pMinMax mx (.val (.int k (if mx then (if a < b then b else a) else (if b < a then b else a))) :: rest) K := by
  rw [pMinMax] at h; exact h.2
theorem pMinMax_one (mx : Bool) : ∀ (n : Nat) (l : List D) {K : D → Prop}, l.length ≤ n → pMinMax mx l K → ∃ d, K d ∧ ∀ K' : D → Prop, K' d ↔ pMinMax mx l K'
  | _, [], _, _, h => by simp [pMinMax] at h
  | _, [x], _, _, h => by simp only [pMinMax] at *; exact ⟨_, h, fun K' => Iff.rfl⟩
  | 0, x :: y :: rest, _, hn, h => by simp at hn
  | n + 1, x :: y :: rest, _, hn, h => by
    obtain ⟨k, a, b, rfl, rfl, h'⟩ := pMinMax_two h
    obtain ⟨d, h1, h2⟩ := pMinMax_one mx n _ (by simpa using hn) h'
    exact ⟨d, h1, fun K' => ⟨fun k => pMinMax_int ((h2 K').1 k), fun q => (h2 K').2 (pMinMax_back q)⟩⟩

theorem parts_same {st st' : PSt} {ps : Array (Nat × Operand)} (he : ∀ x ∈ (ps.toList.map (·.2)).toArray, st'.ev x = st.ev x) : (ps.toList.map fun p => (p.1, st'.ev p.2)) = ps.toList.map fun p => (p.1, st.ev p.2) :=
  List.map_congr_left fun p hp => by rw [he p.2 (by simp; exact ⟨p.1, by simpa using hp⟩)]
theorem args_same {st st' : PSt} {xs : Array Operand} (he : ∀ x ∈ xs, st'.ev x = st.ev x) : xs.toList.map st'.ev = xs.toList.map st.ev :=
  List.map_congr_left fun p hp => he p (by simpa using hp)

theorem calm_of {P : Program} {o : Oper} {st : PSt} {K : D → Heap → Prop} (ho : kindOf o < 2) (h : pop P o st K) : ∃ d, K d st.H ∧ CalmAt P o st d := by
  obtain ⟨dst, op, type, pos, after, guard⟩ := o
  cases op
  case move x => exact ⟨_, h, fun st' K' he _ => by simp only [pop]; rw [he x (by simp [Op.operands])]⟩
  case assign x => exact ⟨_, h, fun st' K' he _ => by simp only [pop]; rw [he x (by simp [Op.operands])]⟩
  case pick c a b =>
    simp only [pop] at h
    obtain ⟨d, h1, h2⟩ := pPick_one h
    exact ⟨d, h1, fun st' K' he _ => by simp only [pop]; rw [he c (by simp [Op.operands]), he a (by simp [Op.operands]), he b (by simp [Op.operands])]; exact h2 (fun d => K' d st'.H)⟩
  case binOp op t x y _ =>
    simp only [pop] at h
    obtain ⟨d, h1, h2⟩ := pBin_one h
    exact ⟨d, h1, fun st' K' he _ => by simp only [pop]; rw [he x (by simp [Op.operands]), he y (by simp [Op.operands])]; exact h2 (fun d => K' d st'.H)⟩
  case unOp op t x =>
    simp only [pop] at h
    obtain ⟨d, h1, h2⟩ := pUn_one h
    exact ⟨d, h1, fun st' K' he _ => by simp only [pop]; rw [he x (by simp [Op.operands])]; exact h2 (fun d => K' d st'.H)⟩
  case index t x i =>
    simp only [pop] at h
    obtain ⟨d, h1, h2⟩ := pIndex_one h
    exact ⟨d, h1, fun st' K' he _ => by simp only [pop]; rw [he x (by simp [Op.operands]), he i (by simp [Op.operands])]; exact h2 (fun d => K' d st'.H)⟩
  case indexAddr t x i =>
    simp only [pop] at h
    obtain ⟨d, h1, h2⟩ := pIndexAddr_one h
    exact ⟨d, h1, fun st' K' he _ => by simp only [pop]; rw [he x (by simp [Op.operands]), he i (by simp [Op.operands])]; exact h2 (fun d => K' d st'.H)⟩
  case slice t x lo hi mx =>
    cases mx with
    | some m => exact h.elim
    | none =>
      simp only [pop] at h
      obtain ⟨d, h1, h2⟩ := pSlice_one h
      refine ⟨d, h1, fun st' K' he _ => ?_⟩
      simp only [pop]
      have e1 : lo.map st'.ev = lo.map st.ev := by cases lo with
        | none => rfl
        | some y => simp only [Option.map_some]; rw [he y (by simp [Op.operands])]
      have e2 : hi.map st'.ev = hi.map st.ev := by cases hi with
        | none => rfl
        | some y => simp only [Option.map_some]; rw [he y (by simp [Op.operands])]
      rw [he x (by simp [Op.operands]), e1, e2]
      exact h2 (fun d => K' d st'.H)
  case field t x f =>
    simp only [pop] at h
    obtain ⟨d, h1, h2⟩ := pField_one h
    exact ⟨d, h1, fun st' K' he _ => by simp only [pop]; rw [he x (by simp [Op.operands])]; exact h2 (fun d => K' d st'.H)⟩
  case fieldAddr t x f =>
    simp only [pop] at h
    obtain ⟨d, h1, h2⟩ := pFieldAddr_one h
    exact ⟨d, h1, fun st' K' he _ => by simp only [pop]; rw [he x (by simp [Op.operands])]; exact h2 (fun d => K' d st'.H)⟩
  case load t x =>
    simp only [pop] at h
    obtain ⟨d, h1, h2⟩ := pLoad_one h
    refine ⟨d, h1, fun st' K' he hH => ?_⟩
    have hH' : st'.H = st.H := hH.resolve_left (by simp [kindOf])
    simp only [pop]; rw [he x (by simp [Op.operands]), hH']; exact h2 (fun d => K' d st.H)
  case extract x i =>
    simp only [pop] at h
    obtain ⟨d, h1, h2⟩ := pExtract_one h
    exact ⟨d, h1, fun st' K' he _ => by simp only [pop]; rw [he x (by simp [Op.operands])]; exact h2 (fun d => K' d st'.H)⟩
  case makeInterface t x =>
    simp only [pop] at h
    obtain ⟨d, h1, h2⟩ := pMakeInterface_one h
    exact ⟨d, h1, fun st' K' he _ => by simp only [pop]; rw [he x (by simp [Op.operands])]; exact h2 (fun d => K' d st'.H)⟩
  case makeFunc fn first cap =>
    refine ⟨_, h, fun st' K' he _ => ?_⟩
    simp only [pop]
    rw [args_same (xs := first) (fun x hx => he x (by simp [Op.operands, hx])), args_same (xs := cap) (fun x hx => he x (by simp [Op.operands, hx]))]
  case nilCheck x =>
    simp only [pop] at h
    obtain ⟨d, h1, h2⟩ := pNilCheck_one h
    exact ⟨d, h1, fun st' K' he _ => by simp only [pop]; rw [he x (by simp [Op.operands])]; exact h2 (fun d => K' d st'.H)⟩
  case build t ps =>
    simp only [pop] at h
    obtain ⟨d, h1, h2⟩ := pBuild_one h
    exact ⟨d, h1, fun st' K' he _ => by simp only [pop]; rw [parts_same he]; exact h2 (fun d => K' d st'.H)⟩
  case call c =>
    obtain ⟨callee, args, argTypes⟩ := c
    cases callee
    case builtin b =>
      cases b
      case len =>
        simp only [pop, pCall] at h
        split at h
        · rename_i x t e1 e2
          obtain ⟨d, h1, h2⟩ := pLen_one h
          refine ⟨d, h1, fun st' K' he _ => ?_⟩
          simp only [pop, pCall, e1, e2]
          have hx : x ∈ args := by have : x ∈ args.toList := by rw [e1]; simp
                                   simpa using this
          rw [he x (by simp [Op.operands, Call.operands, hx])]
          exact h2 (fun d => K' d st'.H)
        · exact h.elim
      case min =>
        simp only [pop, pCall] at h
        obtain ⟨d, h1, h2⟩ := pMinMax_one false _ _ (Nat.le_refl _) h
        exact ⟨d, h1, fun st' K' he _ => by simp only [pop, pCall]; rw [args_same (xs := args) (fun x hx => he x (by simp [Op.operands, Call.operands, hx]))]; exact h2 (fun d => K' d st'.H)⟩
      case max =>
        simp only [pop, pCall] at h
        obtain ⟨d, h1, h2⟩ := pMinMax_one true _ _ (Nat.le_refl _) h
        exact ⟨d, h1, fun st' K' he _ => by simp only [pop, pCall]; rw [args_same (xs := args) (fun x hx => he x (by simp [Op.operands, Call.operands, hx]))]; exact h2 (fun d => K' d st'.H)⟩
      all_goals exact absurd ho (by simp [kindOf])
    all_goals exact absurd ho (by simp [kindOf])
  all_goals exact absurd ho (by simp [kindOf])

/-! ### Regions that leave their order open -/
theorem ev_put {st : PSt} {dst : Option Tmp} {d : D} {x : Operand} (h : ∀ t, dst = some t → x ≠ .tmp t) : (st.put dst d).ev x = st.ev x := by
  cases dst with
  | none => rfl
  | some t =>
    cases x with
    | tmp u =>
      have hne : u ≠ t := fun e => h t rfl (e ▸ rfl)
      simp [PSt.ev, PSt.put, hne]
    | _ => rfl
theorem put_H (st : PSt) (dst : Option Tmp) (d : D) : (st.put dst d).H = st.H := by cases dst <;> rfl
theorem put_swap (env : Nat → D) (H : Heap) {x y : Option Tmp} (d e : D) (h : ∀ t, x = some t → y ≠ some t) : PSt.put ⟨(PSt.put ⟨env, H⟩ x d).env, H⟩ y e = PSt.put ⟨(PSt.put ⟨env, H⟩ y e).env, H⟩ x d := by
  cases x with
  | none => cases y <;> rfl
  | some t =>
    cases y with
    | none => rfl
    | some u =>
      have hne : t ≠ u := fun e => h t rfl (e ▸ rfl)
      simp only [PSt.put, PSt.mk.injEq, and_true]
      funext i
      by_cases h1 : i = u
      · subst h1
        have : ¬ i = t := fun e => hne e.symm
        simp [this]
      · simp [h1]

theorem looks_op {ops : Array Oper} {o : Oper} {x : Operand} {t : Tmp} (h : t ∉ o.looksAt ops) (hx : x ∈ o.op.operands) : x ≠ .tmp t := by
  rintro rfl
  apply h
  simp only [Oper.looksAt, List.mem_append, List.mem_filterMap]
  exact .inl ⟨.tmp t, by simpa using hx, rfl⟩
theorem looks_guard {ops : Array Oper} {o : Oper} {t : Tmp} {j : Nat} {b : Bool} (h : t ∉ o.looksAt ops) (hg : o.guard = some (j, b)) : (ops[j]?).bind (·.dst) ≠ some t := by
  intro e
  apply h
  simp only [Oper.looksAt, hg, e, List.mem_append]
  exact .inr (by simp)
theorem guardD_put {ops : Array Oper} {st : PSt} {dst : Option Tmp} {d : D} {j : Nat} (h : ∀ t, dst = some t → (ops[j]?).bind (·.dst) ≠ some t) : guardD ops (st.put dst d) j = guardD ops st j := by
  unfold guardD
  cases hb : (ops[j]?).bind (·.dst) with
  | none => rfl
  | some u =>
    have hne : ∀ t, dst = some t → u ≠ t := fun t ht e => h t ht (by rw [hb, e])
    cases dst with
    | none => rfl
    | some t => simp only [PSt.put, if_neg (hne t rfl)]

/-- One operation, guard and all. -/
def pone (P : Program) (ops : Array Oper) (o : Oper) (K : PSt → Prop) (st : PSt) : Prop := pops P ops [o] K st
theorem pone_mono {P : Program} {ops : Array Oper} {o : Oper} {K K' : PSt → Prop} {st : PSt} (hk : ∀ st, K st → K' st) (h : pone P ops o K st) : pone P ops o K' st := by
  unfold pone at *
  simp only [pops] at *
  split at h
  · exact pop_mono (fun _ _ q => hk _ q) h
  · split at h
    · exact ⟨fun e => pop_mono (fun _ _ q => hk _ q) (h.1 e), fun e => hk _ (h.2 e)⟩
    · exact hk _ h
    · exact h

theorem pone_mono' {P : Program} {ops : Array Oper} {o : Oper} {K K' : PSt → Prop} {st : PSt} (hk : ∀ d H', (kindOf o < 2 → H' = st.H) → K (PSt.put ⟨st.env, H'⟩ o.dst d) → K' (PSt.put ⟨st.env, H'⟩ o.dst d)) (h : pone P ops o K st) : pone P ops o K' st := by
  have hp : ∀ {K2 K3 : D → Heap → Prop}, (∀ d H', (kindOf o < 2 → H' = st.H) → K2 d H' → K3 d H') → pop P o st K2 → pop P o st K3 := by
    intro K2 K3 hk h
    by_cases ho : kindOf o < 2
    · obtain ⟨d, h1, h2⟩ := calm_of ho h
      exact (h2 st K3 (fun _ _ => rfl) (.inr rfl)).1 (hk _ _ (fun _ => rfl) h1)
    · exact pop_mono (fun d H' => hk d H' (fun x => absurd x ho)) h
  unfold pone at *
  simp only [pops] at *
  split at h
  · exact hp (fun d H' q => hk d H' q) h
  · split at h
    · exact ⟨fun e => hp (fun d H' q => hk d H' q) (h.1 e), fun e => hk (.val undef) st.H (fun _ => rfl) (h.2 e)⟩
    · exact hk (.val undef) st.H (fun _ => rfl) h
    · exact h

/-- o's value is d, whenever it is done. -/
def Sure (P : Program) (ops : Array Oper) (o : Oper) (st : PSt) (d : D) : Prop :=
  ∀ (st' : PSt) (K' : PSt → Prop), (∀ x ∈ o.op.operands, st'.ev x = st.ev x) → (∀ j b, o.guard = some (j, b) → guardD ops st' j = guardD ops st j) → (kindOf o = 0 ∨ st'.H = st.H) →
    (K' (PSt.put st' o.dst d) ↔ pone P ops o K' st')
/-- What an operation of the calm kinds does, whenever it is done. -/
theorem calm_one {P : Program} {ops : Array Oper} {o : Oper} {K : PSt → Prop} {st : PSt} (ho : kindOf o < 2) (h : pone P ops o K st) : ∃ d, K (PSt.put st o.dst d) ∧ Sure P ops o st d := by
  unfold Sure pone at *
  simp only [pops] at *
  split at h
  · rename_i hg
    obtain ⟨d, h1, h2⟩ := calm_of ho h
    exact ⟨d, h1, fun st' K' he _ hH => h2 st' (fun d H' => K' (PSt.put ⟨st'.env, H'⟩ o.dst d)) he hH⟩
  · rename_i j b hg
    split at h
    · rename_i t ht
      by_cases e : t = b
      · obtain ⟨d, h1, h2⟩ := calm_of ho (h.1 e)
        refine ⟨d, h1, fun st' K' he hgd hH => ?_⟩
        rw [hgd j b hg, ht]
        exact ⟨fun k => ⟨fun _ => (h2 st' (fun d H' => K' (PSt.put ⟨st'.env, H'⟩ o.dst d)) he hH).1 k, fun e' => by rw [e] at e'; cases b <;> simp at e'⟩, fun q => (h2 st' (fun d H' => K' (PSt.put ⟨st'.env, H'⟩ o.dst d)) he hH).2 (q.1 e)⟩
      · have e' : t = !b := by cases t <;> cases b <;> simp_all
        refine ⟨.val undef, h.2 e', fun st' K' he hgd hH => ?_⟩
        rw [hgd j b hg, ht]
        exact ⟨fun k => ⟨fun q => absurd q e, fun _ => k⟩, fun q => q.2 e'⟩
    · rename_i ht
      refine ⟨.val undef, h, fun st' K' he hgd hH => ?_⟩
      rw [hgd j b hg, ht]
    · exact h.elim

/-- An operation of any kind, in a state that differs in a slot that it doesn't look at. -/
theorem pone_frame {P : Program} {ops : Array Oper} {o : Oper} {K : PSt → Prop} {st : PSt} {dst : Option Tmp} {d : D} (hl : ∀ t, dst = some t → t ∉ o.looksAt ops)
    (hd : ∀ t, dst = some t → o.dst ≠ some t) : pone P ops o K (st.put dst d) ↔ pone P ops o (fun st' => K (PSt.put st' dst d)) st := by
  have hev : ∀ x ∈ o.op.operands, (st.put dst d).ev x = st.ev x := fun x hx => ev_put fun t ht => looks_op (hl t ht) hx
  have hpop : ∀ K2 : D → Heap → Prop, pop P o (st.put dst d) K2 ↔ pop P o st K2 := by
    intro K2
    obtain ⟨dst', op, type, pos, after, guard⟩ := o
    have hH := put_H st dst d
    simp only at hev
    cases op <;> simp only [pop]
    case slice t x lo hi mx =>
      cases mx with
      | some m => exact Iff.rfl
      | none =>
        simp only
        have e1 : lo.map (st.put dst d).ev = lo.map st.ev := by cases lo with
          | none => rfl
          | some y => simp only [Option.map_some]; rw [hev y (by simp [Op.operands])]
        have e2 : hi.map (st.put dst d).ev = hi.map st.ev := by cases hi with
          | none => rfl
          | some y => simp only [Option.map_some]; rw [hev y (by simp [Op.operands])]
        rw [hev x (by simp [Op.operands]), e1, e2, hH]
    case makeFunc fn first cap =>
      rw [args_same (xs := first) (fun x hx => hev x (by simp [Op.operands, hx])), args_same (xs := cap) (fun x hx => hev x (by simp [Op.operands, hx])), hH]
    case build t ps => rw [parts_same hev, hH]
    case buildSlice t n ps => rw [parts_same hev, hH]
    case alloc t => rw [hH]
    case call c =>
      obtain ⟨callee, args, argTypes⟩ := c
      have ha := args_same (st := st) (st' := st.put dst d) (xs := args) (fun x hx => hev x (by simp [Op.operands, Call.operands, hx]))
      unfold pCall
      cases callee
      case value f =>
        simp only
        rw [hev f (by simp [Op.operands, Call.operands]), ha, hH]
      case invoke => exact Iff.rfl
      case builtin b =>
        cases b <;> simp only
        case len =>
          split
          · rename_i x t e1 e2
            have hx : x ∈ args := by have : x ∈ args.toList := by rw [e1]; simp
                                     simpa using this
            rw [hev x (by simp [Op.operands, Call.operands, hx]), hH]
          · exact Iff.rfl
        case append =>
          split
          · rename_i s x t u e1 e2
            have hs : s ∈ args := by have : s ∈ args.toList := by rw [e1]; simp
                                     simpa using this
            have hx : x ∈ args := by have : x ∈ args.toList := by rw [e1]; simp
                                     simpa using this
            rw [hev s (by simp [Op.operands, Call.operands, hs]), hev x (by simp [Op.operands, Call.operands, hx]), hH]
          · exact Iff.rfl
        case min => rw [ha, hH]
        case max => rw [ha, hH]
    all_goals
      simp only [Op.operands, List.mem_toArray, List.mem_cons, List.not_mem_nil, or_false, forall_eq_or_imp, forall_eq] at hev
      simp only [hev, hH]
  have hput : ∀ (d' : D) (H' : Heap), PSt.put ⟨(st.put dst d).env, H'⟩ o.dst d' = PSt.put (PSt.put ⟨st.env, H'⟩ o.dst d') dst d := by
    intro d' H'
    have h1 : (st.put dst d).env = (PSt.put ⟨st.env, H'⟩ dst d).env := by cases dst <;> rfl
    rw [h1, put_swap st.env H' d d' hd]
    cases o.dst <;> cases dst <;> rfl
  have hskip : (st.put dst d).put o.dst (.val undef) = PSt.put (PSt.put st o.dst (.val undef)) dst d := by
    have := hput (.val undef) st.H
    have e2 : (⟨(st.put dst d).env, st.H⟩ : PSt) = st.put dst d := by cases dst <;> rfl
    rw [e2] at this; exact this
  unfold pone
  simp only [pops]
  cases hg : o.guard with
  | none =>
    simp only [hpop]
    exact ⟨pop_mono fun d' H' q => by rw [← hput]; exact q, pop_mono fun d' H' q => by rw [hput]; exact q⟩
  | some jb =>
    obtain ⟨j, b⟩ := jb
    simp only
    rw [guardD_put (fun t ht => looks_guard (hl t ht) hg)]
    cases guardD ops st j with
    | none => exact Iff.rfl
    | some r =>
      cases r with
      | none => simp only [hskip]
      | some t =>
        simp only [hpop, hskip]
        exact ⟨fun q => ⟨fun e => pop_mono (fun d' H' q => by rw [← hput]; exact q) (q.1 e), q.2⟩, fun q => ⟨fun e => pop_mono (fun d' H' q => by rw [hput]; exact q) (q.1 e), q.2⟩⟩

/-- Operations by their numbers. -/
def plist (P : Program) (ops : Array Oper) (K : PSt → Prop) : List Nat → PSt → Prop
  | [], st => K st
  | i :: rest, st => match ops[i]? with
    | none => plist P ops K rest st
    | some o => pone P ops o (plist P ops K rest) st
theorem plist_some {P : Program} {ops : Array Oper} {K : PSt → Prop} {i : Nat} {rest : List Nat} {o : Oper} (ho : ops[i]? = some o) (st : PSt) : plist P ops K (i :: rest) st ↔ pone P ops o (plist P ops K rest) st := by
  simp [plist, ho]

/-- States that o can't tell apart. -/
def Agree (ops : Array Oper) (o : Oper) (st st' : PSt) : Prop :=
  (∀ x ∈ o.op.operands, st'.ev x = st.ev x) ∧ (∀ j b, o.guard = some (j, b) → guardD ops st' j = guardD ops st j) ∧ (kindOf o = 0 ∨ st'.H = st.H)
theorem Sure.agree {P : Program} {ops : Array Oper} {o : Oper} {st st' : PSt} {d : D} (h : Sure P ops o st d) (ha : Agree ops o st st') : Sure P ops o st' d := fun s K h1 h2 h3 =>
  h s K (fun x hx => (h1 x hx).trans (ha.1 x hx)) (fun j b hg => (h2 j b hg).trans (ha.2.1 j b hg)) (h3.elim .inl fun e => ha.2.2.elim .inl fun e' => .inr (e.trans e'))
theorem Sure.back {P : Program} {ops : Array Oper} {o : Oper} {st st' : PSt} {d : D} (h : Sure P ops o st' d) (ha : Agree ops o st st') : Sure P ops o st d :=
  h.agree ⟨fun x hx => (ha.1 x hx).symm, fun j b hg => (ha.2.1 j b hg).symm, ha.2.2.imp id Eq.symm⟩
/-- What another operation leaves can't be told apart by o. -/
theorem agree_put {ops : Array Oper} {o p : Oper} {st : PSt} {d : D} {H' : Heap} (hap : ∀ t, p.dst = some t → t ∉ o.looksAt ops) (hH : kindOf o = 0 ∨ H' = st.H) : Agree ops o st (PSt.put ⟨st.env, H'⟩ p.dst d) := by
  have h0 : ∀ x, (⟨st.env, H'⟩ : PSt).ev x = st.ev x := fun x => by cases x <;> rfl
  refine ⟨fun x hx => ?_, fun j b hg => ?_, ?_⟩
  · rw [ev_put fun t ht => looks_op (hap t ht) hx, h0]
  · rw [guardD_put fun t ht => looks_guard (hap t ht) hg]; rfl
  · exact hH.imp id fun e => by rw [put_H]; exact e

theorem wp_const {P : Program} {o : Oper} {a : Act} {w : World} {C : Prop} (h : o.wp P a w (fun _ _ => C) (fun _ _ _ => False)) : C := by
  unfold Oper.wp at h
  generalize (execOp a.eval o).run P w = r at h
  cases r with
  | ok x w' =>
    cases x <;> simp only [Oper.upon] at h
    case value v => exact h
    case skip => exact h
    case defer d => exact h
    case enter f args =>
      obtain ⟨e, w'', fr, hr, _⟩ := h []
      cases e with
      | returned v => exact hr
      | panicked c => exact hr.elim
      | outgrown => obtain ⟨_, _, hf⟩ := hr; exact hf.elim
    case row r args =>
      obtain ⟨v, w'', hr, _⟩ := h default []
      exact hr
  | halt x w' => cases x <;> simp only [Oper.upon] at h

/-- What must hold of i and of one ahead of it that needn't be. -/
def free (ops : Array Oper) (oi oj : Oper) : Bool := oi.apart ops oj && oj.apart ops oi && (kindOf oi == 0 || kindOf oj == 0 || (kindOf oi == 1 && kindOf oj == 1))
theorem free_spec {ops : Array Oper} {oi oj : Oper} (h : free ops oi oj = true) : (∀ t, oj.dst = some t → t ∉ oi.looksAt ops) ∧ (∀ t, oi.dst = some t → t ∉ oj.looksAt ops) ∧ (∀ t, oi.dst = some t → oj.dst ≠ some t) ∧
    (kindOf oi = 0 ∨ kindOf oj = 0 ∨ kindOf oi = 1 ∧ kindOf oj = 1) := by
  simp only [free, Bool.and_eq_true, Bool.or_eq_true, beq_iff_eq] at h
  obtain ⟨⟨h1, h2⟩, h3⟩ := h
  obtain ⟨a1, a2, a3⟩ := Oper.apart_spec h1
  exact ⟨a3, a1, a2, by omega⟩

section
variable {P : Program} {ops : Array Oper} {base : Nat} {w0 : World} {n : Nat}

theorem extract {oi : Oper} {i : Nat} (hi : ops[i]? = some oi) (hk : kindOf oi < 2) (hfit : fits n ops.toList = true) {K : PSt → Prop} {post : List Nat} : ∀ (pre : List Nat), (∀ j ∈ pre, ∃ oj, ops[j]? = some oj ∧ free ops oi oj = true) →
    ∀ {st : PSt} {Γ : Gh} {w : World} {a : Act}, Rel P base w0 Γ st.H w → EnvRep P Γ st.env a.tmps → a.tmps.size = n → plist P ops K (pre ++ i :: post) st → ∃ d, Sure P ops oi st d
  | [], _, st, _, _, _, _, _, _, h => by
    obtain ⟨d, _, h2⟩ := calm_one hk ((plist_some hi st).1 h)
    exact ⟨d, h2⟩
  | j :: pre, hp, st, Γ, w, a, hR, hE, hn, h => by
    obtain ⟨oj, hj, hfr⟩ := hp j (by simp)
    obtain ⟨f1, f2, f3, f4⟩ := free_spec hfr
    have h' : pone P ops oj (plist P ops K (pre ++ i :: post)) st := (plist_some hj st).1 h
    have h2 : pone P ops oj (fun st' => Agree ops oi st st' ∧ plist P ops K (pre ++ i :: post) st') st := by
      refine pone_mono' (fun d H' hH q => ⟨agree_put f1 ?_, q⟩) h'
      rcases f4 with h | h | ⟨h, h'⟩
      · exact .inl h
      · exact .inr (hH (by omega))
      · exact .inr (hH (by omega))
    have hdst : ∀ t, oj.dst = some t → t < a.tmps.size := fun t ht => by
      have hm : oj ∈ ops.toList := by
        have := List.mem_of_getElem? (show ops.toList[j]? = some oj by simpa using hj); exact this
      have := List.all_eq_true.1 hfit oj hm
      rw [ht] at this; rw [hn]; simpa using this
    have hs := step_sound (next := fun _ _ => ∃ d, Sure P ops oi st d) (Q' := fun _ _ _ => False) hdst hR hE h2 (fun st' Γ' w' a' hle hR' hE' hs' hd' hk' => by
      obtain ⟨d, hd⟩ := extract hi hk hfit pre (fun j hj => hp j (by simp [hj])) hR' hE' (hs'.trans hn) hk'.2
      exact ⟨d, hd.back hk'.1⟩)
    split at hs
    · exact wp_const hs
    · exact hs

theorem push {oi : Oper} {i : Nat} (hi : ops[i]? = some oi) (hk : kindOf oi < 2) {K : PSt → Prop} {post : List Nat} {d : D} : ∀ (pre : List Nat), (∀ j ∈ pre, ∃ oj, ops[j]? = some oj ∧ free ops oi oj = true) →
    ∀ {st : PSt}, Sure P ops oi st d → plist P ops K (pre ++ i :: post) st → plist P ops K (pre ++ post) (PSt.put st oi.dst d)
  | [], _, st, hs, h => (hs st _ (fun _ _ => rfl) (fun _ _ _ => rfl) (.inr rfl)).2 ((plist_some hi st).1 h)
  | j :: pre, hp, st, hs, h => by
    obtain ⟨oj, hj, hfr⟩ := hp j (by simp)
    obtain ⟨f1, f2, f3, f4⟩ := free_spec hfr
    have h' : pone P ops oj (plist P ops K (pre ++ i :: post)) st := (plist_some hj st).1 h
    refine (plist_some hj _).2 ((pone_frame f2 f3).2 ?_)
    refine pone_mono' (fun d' H' hH q => ?_) h'
    refine push hi hk pre (fun j hj => hp j (by simp [hj])) (hs.agree (agree_put f1 ?_)) q
    rcases f4 with h | h | ⟨h, h'⟩
    · exact .inl h
    · exact .inr (hH (by omega))
    · exact .inr (hH (by omega))

theorem front {oi : Oper} {i : Nat} (hi : ops[i]? = some oi) (hk : ¬ kindOf oi < 2) {K : PSt → Prop} {post : List Nat} : ∀ (pre : List Nat), (∀ j ∈ pre, ∃ oj, ops[j]? = some oj ∧ free ops oi oj = true) →
    ∀ {st : PSt}, plist P ops K (pre ++ i :: post) st → pone P ops oi (plist P ops K (pre ++ post)) st
  | [], _, st, h => (plist_some hi st).1 h
  | j :: pre, hp, st, h => by
    obtain ⟨oj, hj, hfr⟩ := hp j (by simp)
    obtain ⟨f1, f2, f3, f4⟩ := free_spec hfr
    have kj : kindOf oj = 0 := by omega
    obtain ⟨d, h1, h2⟩ := calm_one (by omega) ((plist_some hj st).1 h)
    have h3 := front hi hk pre (fun j hj => hp j (by simp [hj])) h1
    have h4 := (pone_frame (o := oi) f1 (fun t ht e => f3 t e ht)).1 h3
    refine pone_mono' (fun d' H' _ q => ?_) h4
    have ha : Agree ops oj st (PSt.put ⟨st.env, H'⟩ oi.dst d') := agree_put f2 (.inl kj)
    exact (plist_some hj _).2 ((h2 _ _ ha.1 ha.2.1 ha.2.2).1 q)

/-- Whatever needn't come one behind the other can be done in any order. -/
def drawOk (ops : List Oper) : Bool :=
  ops.zipIdx.all fun (oi, i) => oi.after.all (fun e => decide (e.on < i)) && (ops.take i).zipIdx.all fun (oj, j) => oi.after.any (fun e => Region.binds .any e && e.on == j) || free ops.toArray oi oj
theorem drawOk_spec {l : List Oper} (h : drawOk l = true) {i : Nat} {oi : Oper} (hi : l[i]? = some oi) :
    (∀ e ∈ oi.after, e.on < i) ∧ ∀ (j : Nat) oj, j < i → l[j]? = some oj → (∃ e ∈ oi.after, Region.binds .any e = true ∧ e.on = j) ∨ free l.toArray oi oj = true := by
  have hm : (oi, i) ∈ l.zipIdx := by
    rw [List.mem_zipIdx_iff_getElem?]; exact hi
  have := List.all_eq_true.1 h _ hm
  simp only [Bool.and_eq_true] at this
  refine ⟨fun e he => ?_, fun j oj hj hoj => ?_⟩
  · have := Array.all_eq_true_iff_forall_mem.1 this.1 e he
    simpa using this
  · have hm2 : (oj, j) ∈ (l.take i).zipIdx := by
      rw [List.mem_zipIdx_iff_getElem?, List.getElem?_take, if_pos hj]; exact hoj
    have h2 := List.all_eq_true.1 this.2 _ hm2
    simp only [Bool.or_eq_true] at h2
    rcases h2 with h2 | h2
    · rw [← Array.any_toList, List.any_eq_true] at h2
      obtain ⟨e, he, h3⟩ := h2
      simp only [Bool.and_eq_true, beq_iff_eq] at h3
      exact .inl ⟨e, by simpa using he, h3⟩
    · exact .inr h2

theorem draw_sound {l : List Oper} (hok : drawOk l = true) (hfit : fits n l = true) {Γ0 : Gh} {Q : Exit → PSt → Prop} : ∀ (fuel : Nat) (listed : Array Bool) (rem : List Nat), listed.size = l.length →
    (∀ i, i ∈ rem ↔ i < l.length ∧ listed.getD i true = false) → rem.Pairwise (· < ·) → rem.length ≤ fuel →
    ∀ {st : PSt} {Γ : Gh} {w : World} {a : Act}, Γ0.le Γ → Rel P base w0 Γ st.H w → EnvRep P Γ st.env a.tmps → a.tmps.size = n → a.defers = [] → plist P l.toArray (fun st' => Q .normal st') rem st →
    wpAny P .any l.toArray (Post P base w0 Γ0 n Q) fuel listed a w := by
  intro fuel
  have hready : ∀ (listed : Array Bool) (i : Nat), i ∈ Region.ready .any l.toArray listed ↔ i < l.length ∧ listed.getD i true = false ∧ ∃ oi, l[i]? = some oi ∧ ∀ e ∈ oi.after, Region.binds .any e = true → listed.getD e.on false = true := by
    intro listed i
    simp only [Region.ready, List.mem_filter, List.mem_range, List.size_toArray, Bool.and_eq_true, Bool.not_eq_true']
    constructor
    · rintro ⟨h1, h2, h3⟩
      refine ⟨h1, h2, l[i], List.getElem?_eq_getElem h1, fun e he hb => ?_⟩
      have : (l.toArray[i]?) = some l[i] := by simp [h1]
      rw [this] at h3
      simp only [Option.map_some, Option.getD_some] at h3
      have := Array.all_eq_true_iff_forall_mem.1 h3 e he
      rw [hb] at this
      simpa using this
    · rintro ⟨h1, h2, oi, ho, h3⟩
      refine ⟨h1, h2, ?_⟩
      have : (l.toArray[i]?) = some oi := by simpa using ho
      rw [this]
      simp only [Option.map_some, Option.getD_some]
      refine Array.all_eq_true_iff_forall_mem.2 fun e he => ?_
      cases hb : Region.binds .any e
      · rfl
      · simp [h3 e he hb]
  have hnil : ∀ (listed : Array Bool) (rem : List Nat), listed.size = l.length → (∀ i, i ∈ rem ↔ i < l.length ∧ listed.getD i true = false) → rem.Pairwise (· < ·) → Region.ready .any l.toArray listed = [] → rem = [] := by
    intro listed rem hs hrem hp hr
    cases rem with
    | nil => rfl
    | cons r rest =>
      exfalso
      obtain ⟨r1, r2⟩ := (hrem r).1 (by simp)
      have : r ∈ Region.ready .any l.toArray listed := by
        refine (hready listed r).2 ⟨r1, r2, l[r], List.getElem?_eq_getElem r1, fun e he hb => ?_⟩
        have hlt := (drawOk_spec hok (List.getElem?_eq_getElem r1)).1 e he
        have hnot : e.on ∉ r :: rest := by
          intro hm
          rcases List.mem_cons.1 hm with h | h
          · omega
          · have := List.rel_of_pairwise_cons hp h; omega
        have hne : ¬ (e.on < l.length ∧ listed.getD e.on true = false) := fun q => hnot ((hrem _).2 q)
        have hlt2 : e.on < listed.size := by omega
        have : listed.getD e.on true = true := by
          cases hq : listed.getD e.on true
          · exact absurd ⟨by omega, hq⟩ hne
          · rfl
        simpa [hlt2] using this
      rw [hr] at this
      simp at this
  induction fuel with
  | zero =>
    intro listed rem hs hrem hp hl st Γ w a h0 hR hE hn hd hK
    have hr : rem = [] := List.eq_nil_of_length_eq_zero (by omega)
    subst hr
    refine ⟨?_, st, Γ, h0, hR, hE, hn, hd, hK⟩
    apply List.eq_nil_iff_forall_not_mem.2
    intro i hi
    obtain ⟨h1, h2, _⟩ := (hready listed i).1 hi
    have := (hrem i).2 ⟨h1, h2⟩
    simp at this
  | succ fuel ih =>
    intro listed rem hs hrem hp hl st Γ w a h0 hR hE hn hd hK
    refine ⟨fun hr => ?_, fun i hi => ?_⟩
    · obtain rfl := hnil listed rem hs hrem hp hr
      exact ⟨st, Γ, h0, hR, hE, hn, hd, hK⟩
    · obtain ⟨h1, h2, oi, ho, h3⟩ := (hready listed i).1 hi
      have himem : i ∈ rem := (hrem i).2 ⟨h1, h2⟩
      obtain ⟨pre, post, rfl⟩ := List.append_of_mem himem
      have ho' : l.toArray[i]? = some oi := by simpa using ho
      have hpre : ∀ j ∈ pre, ∃ oj, l.toArray[j]? = some oj ∧ free l.toArray oi oj = true := by
        intro j hj
        have hji : j < i := by
          have := (List.pairwise_append.1 hp).2.2 j hj i (by simp)
          exact this
        have hjr := (hrem j).1 (by simp [hj])
        refine ⟨l[j]'hjr.1, by simp [hjr.1], ?_⟩
        rcases (drawOk_spec hok ho).2 j _ hji (List.getElem?_eq_getElem hjr.1) with ⟨e, he, hb, rfl⟩ | h
        · have h4 := h3 e he hb
          have hlt : e.on < listed.size := by omega
          have h5 : listed.getD e.on true = false := hjr.2
          simp [hlt] at h4 h5
          rw [h4] at h5; cases h5
        · exact h
      have hone : pone P l.toArray oi (plist P l.toArray (fun st' => Q .normal st') (pre ++ post)) st := by
        by_cases hk : kindOf oi < 2
        · obtain ⟨d, hd'⟩ := extract ho' hk (by simpa using hfit) pre hpre hR hE hn hK
          exact (hd' st _ (fun _ _ => rfl) (fun _ _ _ => rfl) (.inr rfl)).1 (push ho' hk pre hpre hd' hK)
        · exact front ho' hk pre hpre hK
      have hdst : ∀ t, oi.dst = some t → t < a.tmps.size := fun t ht => by
        have := List.all_eq_true.1 hfit oi (List.mem_of_getElem? ho)
        rw [ht] at this; rw [hn]; simpa using this
      have hnd : (pre ++ i :: post).Nodup := hp.imp (fun h => Nat.ne_of_lt h)
      have hrem' : ∀ k, k ∈ pre ++ post ↔ k < l.length ∧ (listed.setIfInBounds i true).getD k true = false := by
        intro k
        have h5 := hrem k
        by_cases e : k = i
        · subst e
          have hnot : k ∉ pre ++ post := by
            rw [List.nodup_append] at hnd
            simp only [List.nodup_cons] at hnd
            intro hm
            rcases List.mem_append.1 hm with h | h
            · exact hnd.2.2 k h k (by simp) rfl
            · exact hnd.2.1.1 h
          have hlt : k < listed.size := by omega
          simp [hlt] at hnot ⊢
          exact hnot
        · have e1 : k ∈ pre ++ post ↔ k ∈ pre ++ i :: post := by simp [e]
          have e' : i ≠ k := fun q => e q.symm
          rw [e1, h5]
          simp [Array.getElem?_setIfInBounds_ne e']
      have hp' : (pre ++ post).Pairwise (· < ·) := hp.sublist (List.Sublist.append_left (List.sublist_cons_self i post) pre)
      have hs := step_sound (next := wpAny P .any l.toArray (Post P base w0 Γ0 n Q) fuel (listed.setIfInBounds i true)) (Q' := Post P base w0 Γ0 n Q) hdst hR hE hone
        (fun st' Γ' w' a' hle hR' hE' hs' hd' hk' => ih (listed.setIfInBounds i true) (pre ++ post) (by simpa using hs) hrem' hp' (by simp at hl ⊢; omega) (h0.trans hle) hR' hE' (hs'.trans hn) (hd'.trans hd) hk')
      unfold wpOp
      rw [ho']
      simp only
      split
      · rename_i hw; rw [if_pos hw] at hs; exact .inl hs
      · rename_i hw; rw [if_neg hw] at hs; exact hs

theorem plist_range (P : Program) (ops : Array Oper) (K : PSt → Prop) : ∀ (l : List Oper) (k : Nat) (st : PSt), (∀ j, l[j]? = ops[k + j]?) → pops P ops l K st → plist P ops K (List.range' k l.length) st
  | [], k, st, _, h => h
  | o :: l, k, st, he, h => by
    have h0 : ops[k]? = some o := by simpa using (he 0).symm
    rw [List.length_cons, List.range'_succ]
    refine (plist_some h0 st).2 (pone_mono (fun st' q => ?_) (show pone P ops o (pops P ops l K) st from h))
    exact plist_range P ops K l (k + 1) st' (fun j => by have := he (j + 1); simpa [Nat.add_assoc, Nat.add_comm 1 j] using this) q

theorem pwp_region_draw (hm : P.follows .mixedOrders = true) {id : Nat} {l : List Oper} {st : PSt} {Q : Exit → PSt → Prop} (hfit : fits n l = true) (hok : drawOk l = true) (h : pops P l.toArray l (fun st' => Q .normal st') st) :
    pwp P n (.region id l.toArray true) Q st := by
  intro base w0 Γ w a h1 h2 h3 h4
  refine wp_region_any hm ?_
  have hR : Rel P base w0 Γ st.H { w with drawn := w.drawn + 1 } := h1.drew
  have hsz : l.toArray.size = l.length := by simp
  rw [hsz]
  refine draw_sound hok hfit l.length (Array.replicate l.length false) (List.range' 0 l.length) (by simp) (fun i => ?_) ?_ (by simp) (.refl Γ) hR h2 h3 h4 (plist_range P l.toArray _ l 0 st (by simp) h)
  · by_cases e : i < l.length
    · simp [e]
    · simp [e]
  · exact List.pairwise_lt_range'
end
theorem region_draw_k {P : Program} {n : Nat} (hm : P.follows .mixedOrders = true) {id : Nat} {ops : List Oper} {st : PSt} {Q : Exit → PSt → Prop} (hf : fits n ops = true) (hok : drawOk ops = true)
    (h : ∀ K : PSt → Prop, (∀ st, Q .normal st → K st) → pops P ops.toArray ops K st) : pwp P n (.region id ops.toArray true) Q st :=
  pwp_region_draw hm hf hok (h _ fun _ h => h)
end Go.Pw
