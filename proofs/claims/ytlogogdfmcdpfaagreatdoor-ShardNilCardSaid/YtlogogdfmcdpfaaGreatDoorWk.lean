/-
What was read reads the same later; both walks joined.
-/
import Derived.ProofKit
import Derived.Test.YtlogogdfmcdpfaaGreatDoorWc
import Derived.Test.YtlogogdfmcdpfaaGreatDoorWj
set_option linter.all false
namespace Go.Am
open Go Go.RowKit

theorem mapM_mono {α β : Type} {f g : α → Option β} : ∀ {l : List α} {ys : List β}, (∀ x ∈ l, ∀ y, f x = some y → g x = some y) → l.mapM f = some ys → l.mapM g = some ys := by
  intro l
  induction l with
  | nil => intro ys _ h; simpa using h
  | cons x l ih =>
    intro ys hfg h
    simp only [List.mapM_cons, Option.bind_eq_bind, Option.bind_eq_some_iff, Option.pure_def, Option.some.injEq] at h ⊢
    obtain ⟨y, h1, zs, h2, h3⟩ := h
    exact ⟨y, hfg x List.mem_cons_self y h1, zs, ih (fun x hx => hfg x (List.mem_cons_of_mem _ hx)) h2, h3⟩

theorem bind_mono {α β : Type} {a b : Option α} {f g : α → Option β} {y : β} (hab : ∀ x, a = some x → b = some x) (hfg : ∀ x y, f x = some y → g x = some y) (h : a.bind f = some y) : b.bind g = some y := by
  obtain ⟨x, h1, h2⟩ := Option.bind_eq_some_iff.1 h
  exact Option.bind_eq_some_iff.2 ⟨x, hab x h1, hfg x y h2⟩

theorem map_mono {α β : Type} {a b : Option α} {f : α → β} {y : β} (hab : ∀ x, a = some x → b = some x) (h : a.map f = some y) : b.map f = some y := by
  obtain ⟨x, h1, h2⟩ := Option.map_eq_some_iff.1 h
  exact Option.map_eq_some_iff.2 ⟨x, hab x h1, h2⟩

section
variable {H : Type} {enc : TypeId × Value → H} {P : Program} {w w' : World}

theorem cell_later (hk : ∀ i, i < w.heap.size → w'.heap[i]? = w.heap[i]?) {a : Addr} {v : Value} (h : w.cell? a = some v) : w'.cell? a = some v := by
  have hb : a.block < w.heap.size := by
    rcases Nat.lt_or_ge a.block w.heap.size with hb | hb
    · exact hb
    · rw [World.cell?, Array.getElem?_eq_none hb] at h; simp at h
  rw [World.cell?] at h ⊢
  rw [hk _ hb]; exact h

theorem cells_later (hk : ∀ i, i < w.heap.size → w'.heap[i]? = w.heap[i]?) {a : Addr} {n : Nat} {cs : List Value} (h : w.cells? 0 a n = some cs) : w'.cells? 0 a n = some cs := by
  unfold World.cells? at h ⊢
  rw [if_pos (Nat.zero_le _)] at h ⊢
  exact mapM_mono (fun _ _ _ h => cell_later hk h) h

theorem cells_in {a : Addr} {n : Nat} {cs : List Value} (hn : n ≠ 0) (h : w.cells? 0 a n = some cs) : a.block < w.heap.size := by
  unfold World.cells? at h
  rw [if_pos (Nat.zero_le _)] at h
  obtain ⟨m, rfl⟩ := Nat.exists_eq_succ_of_ne_zero hn
  rw [List.range_succ_eq_map, List.mapM_cons] at h
  simp only [Option.bind_eq_bind, Option.bind_eq_some_iff] at h
  obtain ⟨v, h1, _⟩ := h
  rcases Nat.lt_or_ge a.block w.heap.size with hb | hb
  · exact hb
  · rw [World.cell?] at h1
    rw [show (a.add 0).block = a.block from rfl, Array.getElem?_eq_none hb] at h1
    simp at h1

/-- types, and whatever they lead to: no slice of empty elements among them -/
def closedB (P : Program) (L : List TypeId) : Bool := L.all fun t => match P.underlying t with
  | some (.pointer e) => L.contains e
  | some (.slice e) => L.contains e && P.cellsOf e != 0
  | some (.struct fs) => fs.toList.all fun f => L.contains f.type
  | some (.array _ e) => L.contains e
  | some (.map _ e) => L.contains e
  | _ => true

theorem trod_later {L : List TypeId} (hk : ∀ i, i < w.heap.size → w'.heap[i]? = w.heap[i]?) (hL : closedB P L = true) :
    ∀ (fuel : Nat) (t : TypeId) (cs : List Value) (x : DataW H × List MemPlace), t ∈ L → DataW.trod enc P w 0 (fun _ => true) true fuel t cs = some x → DataW.trod enc P w' 0 (fun b => decide (b < w.heap.size)) true fuel t cs = some x := by
  intro fuel
  induction fuel with
  | zero => intro t cs x _ h; cases h
  | succ fuel ih =>
    intro t cs x ht h
    have hc0 := List.all_eq_true.1 hL t ht
    unfold DataW.trod at h ⊢
    split at h
    case h_1 => exact h
    case h_2 => exact h
    case h_3 => exact h
    case h_4 => exact h
    case h_5 => exact h
    case h_6 hu =>
      rw [hu] at hc0
      exact map_mono (fun y hy => bind_mono (fun _ h => cells_later hk h) (fun _ _ h => ih _ _ _ (by simpa using hc0) h) hy) h
    case h_7 => exact h
    case h_8 e a len cap hu =>
      rw [hu] at hc0
      simp only [Bool.and_eq_true, List.contains_iff_mem, bne_iff_ne] at hc0
      dsimp only at h ⊢
      split at h
      · rename_i hc
        rw [if_pos hc]
        have hel : ∀ i y, ((w.cells? 0 (a.add (i * P.cellsOf e)) (P.cellsOf e)).bind (DataW.trod enc P w 0 (fun _ => true) true fuel e)) = some y →
            ((w'.cells? 0 (a.add (i * P.cellsOf e)) (P.cellsOf e)).bind (DataW.trod enc P w' 0 (fun b => decide (b < w.heap.size)) true fuel e)) = some y := fun i y hy =>
          bind_mono (fun _ h => cells_later hk h) (fun _ _ h => ih _ _ _ hc0.1 h) hy
        refine bind_mono (fun ys hy => mapM_mono (fun i _ y hy => hel i y hy) hy) (fun ys y hy => ?_) h
        refine map_mono (fun zs hzs => ?_) hy
        simp only [if_true] at hzs
        by_cases hb : a.block < w.heap.size
        · rw [if_pos (by simpa using hb)]
          exact mapM_mono (fun j _ y hy => hel (len + j) y hy) hzs
        · rw [if_neg (by simpa using hb)]
          cases hn : cap - len with
          | zero => rw [hn] at hzs; simpa using hzs
          | succ m =>
            exfalso
            rw [hn, List.range_succ_eq_map, List.mapM_cons] at hzs
            simp only [Option.bind_eq_bind, Option.bind_eq_some_iff] at hzs
            obtain ⟨y, ⟨cs, h1, _⟩, _⟩ := hzs
            exact hb (by have := cells_in hc0.2 h1; rwa [show (a.add ((len + 0) * P.cellsOf e)).block = a.block by (unfold Addr.add; split <;> rfl)] at this)
      · cases h
    case h_9 hu =>
      rw [hu] at hc0
      simp only [List.all_eq_true, List.contains_iff_mem] at hc0
      split at h
      · rename_i hc
        rw [if_pos hc]
        exact map_mono (fun y hy => mapM_mono (fun f hf _ h => ih _ _ _ (hc0 f hf) h) hy) h
      · cases h
    case h_10 hu =>
      rw [hu] at hc0
      simp only [List.contains_iff_mem] at hc0
      split at h
      · rename_i hc
        rw [if_pos hc]
        exact map_mono (fun y hy => mapM_mono (fun _ _ _ h => ih _ _ _ hc0 h) hy) h
      · cases h
    case h_11 => exact h
    case h_12 => exact h
    case h_13 => exact h
    case h_14 k e b hu =>
      rw [hu] at hc0
      simp only [List.contains_iff_mem] at hc0
      split at h
      · rename_i es clock hb
        have hlt : b < w.heap.size := (Array.getElem?_eq_some_iff.1 hb).1
        rw [hk b hlt, hb]
        simp only
        split at h
        · rename_i hc
          rw [if_pos hc]
          refine bind_mono (fun ys hy => mapM_mono (fun x _ y hy => ?_) hy) (fun _ _ h => h) h
          refine bind_mono (fun _ h => h) (fun key z hz => ?_) hy
          split at hz
          · rename_i hf
            rw [if_pos hf]
            exact map_mono (fun _ h => ih _ _ _ hc0 h) hz
          · cases hz
        · cases h
      · cases h
    all_goals first | exact h | (cases h)

theorem trodAll_later {L : List TypeId} (hk : ∀ i, i < w.heap.size → w'.heap[i]? = w.heap[i]?) (hL : closedB P L = true) :
    ∀ {ts : List TypeId} {vs : List Value} {ds : List (DataW H)} {ps : List MemPlace}, (∀ t ∈ ts, t ∈ L) → DataW.TrodAll enc P w 0 (fun _ => true) true ts vs ds ps → DataW.TrodAll enc P w' 0 (fun b => decide (b < w.heap.size)) true ts vs ds ps := by
  intro ts
  induction ts with
  | nil =>
    intro vs ds ps _ h
    cases vs <;> cases ds <;> exact h
  | cons t ts ih =>
    intro vs ds ps ht h
    cases vs with
    | nil => cases ds <;> exact h
    | cons v vs =>
      cases ds with
      | nil => exact h
      | cons d ds =>
        obtain ⟨p, q, ⟨fuel, h1⟩, h2, h3⟩ := h
        exact ⟨p, q, ⟨fuel, trod_later hk hL _ _ _ _ (ht t List.mem_cons_self) h1⟩, ih (fun t h => ht t (List.mem_cons_of_mem _ h)) h2, h3⟩

/-- a law's post: true, and all that there was is there -/
theorem post_kept {f : Func} {s : ChangeSpec} {apart fresh handsOn : Bool} {args : Array Value} {v : Value} {ds : List (DataW H)} {before : List MemPlace}
    {L : List TypeId} (hL : closedB P L = true) (hts : ∀ t ∈ f.params.toList, t ∈ L)
    (hW : DataW.Whole enc P f.params.toList s.vars apart w args.toList ds [] before) (hv : s.vars = [])
    (hk : ∀ i, i < w.heap.size → w'.heap[i]? = w.heap[i]?) (hos : w'.os = w.os) (hout : w'.output = w.output)
    (hres : ∀ (b : Nat) (sp : Nat → Bool) (hd : Bool), DataW.TrodAll enc P w' b sp hd f.resultTypes.toList (v.resultList f.resultTypes.size) (s.fn H (ds ++ [])).results [])
    (hfa : (s.fn H (ds ++ [])).args = ds) (hfv : (s.fn H (ds ++ [])).vars = []) : s.post enc P f apart fresh handsOn false w args v w' := by
  obtain ⟨p, q, h1, h2, h3, h4, h5⟩ := hW
  rw [hv] at h2
  have hq : q = [] := h2
  refine ⟨ds, [], before, [], p, [], ⟨p, q, h1, by rw [hv]; exact h2, h3, h4, h5⟩, hres _ _ _, ?_, ?_, ?_, fun h => by cases h⟩
  · rw [hfa]; exact trodAll_later hk hL hts h1
  · rw [hfv, hv]; rfl
  · refine ⟨hos, hout, fun i hi => ?_⟩
    rw [hk i hi]
    split
    · rename_i e1 e2
      rw [e1] at e2
      simp only [Option.some.injEq, Obj.cells.injEq] at e2
      obtain ⟨rfl, rfl, rfl⟩ := e2
      exact ⟨rfl, rfl, rfl, fun _ _ => rfl⟩
    · rename_i e1 e2
      rw [e1] at e2
      simp only [Option.some.injEq, Obj.map.injEq] at e2
      obtain ⟨rfl, rfl⟩ := e2
      exact .inr ⟨rfl, rfl⟩
    · rfl
end
end Go.Am

namespace Go.Am
open Go Go.RowKit

def AHeap.ofWorld (W : World) : AHeap where
  get i := match W.heap[i]? with
    | some (.cells c _ _) => .cells c.toList false false
    | _ => .none
  next := W.heap.size
  base := W
  own _ := False

theorem HR.ofWorld (W : World) : HR (AHeap.ofWorld W) W := by
  refine ⟨rfl, Nat.le_refl _, ?_, ?_, fun _ _ _ => rfl, rfl, rfl, rfl⟩
  · intro b vs op wr hg
    simp only [AHeap.ofWorld] at hg
    split at hg
    · rename_i c e fz hb
      simp only [AObj.cells.injEq] at hg
      obtain ⟨rfl, rfl, rfl⟩ := hg
      exact ⟨c, e, fz, hb, fun i v h => by simpa using h, fun _ => by simp, fun h => by cases h⟩
    · cases hg
  · intro b o wr hg
    simp only [AHeap.ofWorld] at hg
    split at hg <;> cases hg

/-- a contract, at a world -/
theorem Spec.calls {P : Program} {f : FuncId} {args : List Value} {H : Heap} {Q : Value → Heap → Prop} (h : Spec P f args H Q) {W : World} (hH : SL (AHeap.ofWorld W) H) :
    Calls P f args.toArray W fun e W' => ∃ v H', e = .returned v ∧ (∀ i, i < W.heap.size → W'.heap[i]? = W.heap[i]?) ∧ W'.os = W.os ∧ W'.output = W.output ∧ Q v H' := by
  refine (h.h _ hH W (.ofWorld W)).mono ?_
  rintro e W' ⟨v, A', rfl, hA, hs, H', _, _, hq⟩
  have hb : A'.base = W := hs.1
  have ho : A'.own = fun _ => False := hs.2
  refine ⟨v, H', rfl, fun i hi => ?_, by rw [hA.os, hb], by rw [hA.out, hb], hq⟩
  have := hA.kept i (by rw [hb]; exact hi) (by rw [ho]; exact fun h => h)
  rw [this, hb]

section
variable {H : Type} {enc : TypeId × Value → H} {P : Program} {w : World} {base : Nat} {sp : Nat → Bool} {held : Bool} {fuel : Nat} {t : TypeId} {cs : List Value} {x : DataW H × List MemPlace}

theorem trod_int' {k : IntKind} (hu : P.underlying t = some (.int k)) (h : DataW.trod enc P w base sp held fuel t cs = some x) : ∃ n, cs = [.int k n] ∧ (Lit.int k n).wf = true := by
  cases fuel with
  | zero => cases h
  | succ fuel =>
    unfold DataW.trod at h
    rw [hu] at h
    split at h <;> rename_i h1 <;> simp only [Option.some.injEq, reduceCtorEq] at h1
    · cases h1
      split at h
      · rename_i hc
        obtain ⟨rfl, hw⟩ := hc
        exact ⟨_, rfl, hw⟩
      · cases h
    · cases h

theorem trod_str' (hu : P.underlying t = some .string) (h : DataW.trod enc P w base sp held fuel t cs = some x) : ∃ s, cs = [.string s] ∧ s.size ≤ maxLen := by
  cases fuel with
  | zero => cases h
  | succ fuel =>
    unfold DataW.trod at h
    rw [hu] at h
    split at h <;> rename_i h1 <;> simp only [Option.some.injEq, reduceCtorEq] at h1
    · split at h
      · rename_i hc
        exact ⟨_, rfl, hc⟩
      · cases h
    · cases h

theorem trod_bool' (hu : P.underlying t = some .bool) (h : DataW.trod enc P w base sp held fuel t cs = some x) : ∃ b, cs = [.bool b] := by
  cases fuel with
  | zero => cases h
  | succ fuel =>
    unfold DataW.trod at h
    rw [hu] at h
    split at h <;> rename_i h1 <;> simp only [Option.some.injEq, reduceCtorEq] at h1
    · exact ⟨_, rfl⟩
    · cases h

theorem mapM_each {α β : Type} {f : α → Option β} : ∀ {l : List α} {ys : List β}, l.mapM f = some ys → ∀ a ∈ l, ∃ y, f a = some y := by
  intro l
  induction l with
  | nil => intro ys _ a ha; cases ha
  | cons b l ih =>
    intro ys h a ha
    simp only [List.mapM_cons, Option.bind_eq_bind, Option.bind_eq_some_iff] at h
    obtain ⟨y, h1, zs, h2, _⟩ := h
    rcases List.mem_cons.1 ha with rfl | ha
    · exact ⟨y, h1⟩
    · exact ih h2 a ha

theorem mapM_at {α β : Type} {f : α → Option β} : ∀ {l : List α} {ys : List β}, l.mapM f = some ys → ∀ {i : Nat} {a : α}, l[i]? = some a → ∃ y, ys[i]? = some y ∧ f a = some y := by
  intro l
  induction l with
  | nil => intro ys _ i a ha; simp at ha
  | cons b l ih =>
    intro ys h i a ha
    simp only [List.mapM_cons, Option.bind_eq_bind, Option.bind_eq_some_iff, Option.pure_def, Option.some.injEq] at h
    obtain ⟨y, h1, zs, h2, rfl⟩ := h
    cases i with
    | zero =>
      simp only [List.getElem?_cons_zero, Option.some.injEq] at ha
      subst ha
      exact ⟨y, rfl, h1⟩
    | succ i => exact ih h2 (by simpa using ha)

theorem mapM_len {α β : Type} {f : α → Option β} : ∀ {l : List α} {ys : List β}, l.mapM f = some ys → ys.length = l.length := by
  intro l
  induction l with
  | nil => intro ys h; simp only [List.mapM_nil, Option.pure_def, Option.some.injEq] at h; subst h; rfl
  | cons b l ih =>
    intro ys h
    simp only [List.mapM_cons, Option.bind_eq_bind, Option.bind_eq_some_iff, Option.pure_def, Option.some.injEq] at h
    obtain ⟨y, _, zs, h2, rfl⟩ := h
    simp [ih h2]

theorem trod_parts {fs : Array Field} (hu : P.underlying t = some (.struct fs)) (h : DataW.trod enc P w base sp held fuel t cs = some x) :
    ∃ fuel' parts, x.1 = .agg parts ∧ ∀ {i : Nat} {f : Field}, fs.toList[i]? = some f → ∃ y, parts[i]? = some y.1 ∧ DataW.trod enc P w base sp held fuel' f.type ((cs.drop f.offset).take (P.cellsOf f.type)) = some y := by
  cases fuel with
  | zero => cases h
  | succ fuel =>
    unfold DataW.trod at h
    rw [hu] at h
    dsimp only at h
    split at h
    · obtain ⟨ys, h2, rfl⟩ := Option.map_eq_some_iff.1 h
      refine ⟨fuel, _, rfl, fun {i f} hi => ?_⟩
      obtain ⟨y, h3, h4⟩ := mapM_at h2 hi
      exact ⟨y, by rw [List.getElem?_map, h3]; rfl, h4⟩
    · cases h

theorem trod_slice_len {e : TypeId} {a : Addr} {len cap : Nat} (hu : P.underlying t = some (.slice e)) (h : DataW.trod enc P w base sp held fuel t [.slice (some a) len cap] = some x) :
    ∃ elems spare, x.1 = .slice elems spare ∧ elems.length = len := by
  cases fuel with
  | zero => cases h
  | succ fuel =>
    unfold DataW.trod at h
    rw [hu] at h
    dsimp only at h
    split at h
    · obtain ⟨ys, h2, h3⟩ := Option.bind_eq_some_iff.1 h
      obtain ⟨zs, h4, rfl⟩ := Option.map_eq_some_iff.1 h3
      exact ⟨_, _, rfl, by rw [List.length_map, mapM_len h2, List.length_range]⟩
    · cases h

theorem trod_struct' {fs : Array Field} (hu : P.underlying t = some (.struct fs)) (h : DataW.trod enc P w base sp held fuel t cs = some x) :
    cs.length = P.cellsOf t ∧ ∃ fuel', ∀ f ∈ fs.toList, ∃ y, DataW.trod enc P w base sp held fuel' f.type ((cs.drop f.offset).take (P.cellsOf f.type)) = some y := by
  cases fuel with
  | zero => cases h
  | succ fuel =>
    unfold DataW.trod at h
    rw [hu] at h
    dsimp only at h
    split at h
    · rename_i hc
      obtain ⟨ys, h2, _⟩ := Option.map_eq_some_iff.1 h
      exact ⟨hc, fuel, fun f hf => mapM_each h2 f hf⟩
    · cases h

theorem trod_slice' {e : TypeId} (hu : P.underlying t = some (.slice e)) (h : DataW.trod enc P w base sp held fuel t cs = some x) :
    cs = [.slice none 0 0] ∨ ∃ a len cap, cs = [.slice (some a) len cap] ∧ len ≤ cap ∧ cap ≤ maxLen ∧ ∃ fuel', ∀ i, i < len → ∃ y, ((w.cells? base (a.add (i * P.cellsOf e)) (P.cellsOf e)).bind (DataW.trod enc P w base sp held fuel' e)) = some y := by
  cases fuel with
  | zero => cases h
  | succ fuel =>
    unfold DataW.trod at h
    rw [hu] at h
    split at h <;> rename_i h1 <;> simp only [Option.some.injEq, reduceCtorEq] at h1
    · exact .inl rfl
    · cases h1
      dsimp only at h
      split at h
      · rename_i hc
        obtain ⟨ys, h2, _⟩ := Option.bind_eq_some_iff.1 h
        exact .inr ⟨_, _, _, rfl, hc.2.1, hc.2.2, fuel, fun i hi => mapM_each h2 i (by simpa using hi)⟩
      · cases h
    · cases h
end
end Go.Am

namespace Go.Am
open Go

theorem evF_callR {P : Program} {E : EP} {n f : Nat} {args args' : List Value} {k : Res → BT XO → Nat → Bool} (A : AHeap) (hE : EOk P A E) (hv : VL (fun _ _ _ => False) args args') (h : evF E n (.call f args) .leaf 0 k = true) {p : Value → Prop} (hk : ∀ v H m, k (.val v) H m = true → ∀ R u, VR R v u → p u) :
    SemA P (callFunc f args'.toArray) A (opNextX P fun u A' => p u ∧ A.next ≤ A'.next ∧ ∀ b, b < A.next → A'.get b = A.get b) := by
  have hx : HX A (fun _ _ _ => False) 0 .leaf A := ⟨fun _ _ _ h => h.elim, fun _ _ _ _ _ h => h.elim, fun _ _ _ _ _ _ _ h => by simp [BT.get] at h, fun _ _ h => by simp [BT.get] at h, fun _ _ _ => rfl, Nat.le_refl _, fun _ _ _ h => h.elim⟩
  refine ((evF_ok hE n).call _ _ _ _ _ h _ A args' hx hv).mono fun nx A' _ hq => opNextX.mono ?_ hq
  rintro u A' ⟨R', v, H', n', h1, h2, h3, h4⟩
  exact ⟨hk _ _ _ h4 _ _ h3, h2.le, fun b hb => h2.fr b hb fun b0 κ hr => Nat.lt_irrefl _ (Nat.lt_of_lt_of_le hb (h2.ge _ _ _ hr))⟩

theorem evF_specR {P : Program} {E : EP} {n f : Nat} {args args' : List Value} {k : Res → BT XO → Nat → Bool} (hent : entersB P f = true) (hE : ∀ A, EOk P A E) (hv : VL (fun _ _ _ => False) args args') (h : evF E n (.call f args) .leaf 0 k = true) {p : Value → Prop}
    (hk : ∀ v H m, k (.val v) H m = true → ∀ R u, VR R v u → p u) (H : Heap) : Spec P f args' H (fun v G => G = H ∧ p v) := by
  refine Spec.any ⟨hent, fun A hA => ?_⟩ H
  refine (callA_of_sem hent (evF_callR A (hE A) hv h hk)).mono ?_
  rintro u A' hs ⟨h1, h2, h3⟩
  exact ⟨[], ⟨List.nodup_nil, (fun _ h => by cases h)⟩, ⟨hs, h2, (fun _ h => by cases h), fun b hb _ => h3 b hb⟩, rfl, h1⟩

/-- an answer that is known -/
def isV (x : Value) (res : Res) (_ : BT XO) (_ : Nat) : Bool := match res with
  | .val v => sameV1 v x
  | _ => false

theorem isV_eq {x v : Value} {H : BT XO} {m : Nat} (h : isV x (.val v) H m = true) : v = x := sameV1_eq h

theorem VL.flat_eq {R : RelB} : ∀ {l m : List Value}, l.all flatB = true → VL R l m → l = m := by
  intro l
  induction l with
  | nil => intro m _ h; cases h; rfl
  | cons v l ih =>
    intro m hf h
    simp only [List.all_cons, Bool.and_eq_true] at hf
    cases h with
    | cons h1 h2 => rw [ih hf.2 h2, h1.flat_eq hf.1]

theorem VR.agg_flat {R : RelB} {a : Array Value} {u : Value} (hf : a.toList.all flatB = true) (h : VR R (.agg a) u) : u = .agg a := by
  cases h with
  | flat _ h => rfl
  | agg h1 => rw [Array.ext' (VL.flat_eq hf h1)]

theorem codeX_of_codeA {P : Program} {c : Code} {t : Array Value} {A : AHeap} {Q : Exit → Array Value → AHeap → Prop} (h : CodeA P c t A Q) : CodeX none P c t [] A (fun e t ds A' => ds = [] ∧ Q e t A') := by
  intro w hw
  have h1 : c.wpIn (FX none) 0 P (lift A Q) ⟨t, []⟩ w := (wpIn_wide (n := 0)).2 (h w hw)
  refine wpIn_mono h1 ?_
  rintro e a w' ⟨hd, A', hA, hs, hq⟩
  exact ⟨A', hA, hs, hd, hq⟩

theorem codeX_of_codeS {P : Program} {N : Nat} {c : Code} {F : Fr} {H : Heap} {t : Array Value} {A : AHeap} {Q : Exit → Fr → Heap → Prop} (h : CodeS P N c F H Q) (hs : t.size = N) (hF : TR F t) (hH : SL A H) :
    CodeX none P c t [] A (fun e t ds A' => ds = [] ∧ t.size = N ∧ ∃ F' H', TR F' t ∧ SL A' H' ∧ Q e F' H') :=
  (codeX_of_codeA (h A t hs hF hH)).mono fun _ _ _ _ _ ⟨h1, h2, F', H', h3, h4, _, h5⟩ => ⟨h1, h2, F', H', h3, h4, h5⟩

/-- a call, at a world -/
theorem calls_of_callA {P : Program} {f : FuncId} {args : Array Value} {p : Value → Prop} {W : World} (h : CallA P f args (AHeap.ofWorld W) (fun v _ => p v)) :
    Calls P f args W fun e W' => ∃ v, e = .returned v ∧ (∀ i, i < W.heap.size → W'.heap[i]? = W.heap[i]?) ∧ W'.os = W.os ∧ W'.output = W.output ∧ p v := by
  refine (h W (.ofWorld W)).mono ?_
  rintro e W' ⟨v, A', rfl, hA, hs, hq⟩
  have hb : A'.base = W := hs.1
  have ho : A'.own = fun _ => False := hs.2
  refine ⟨v, rfl, fun i hi => ?_, by rw [hA.os, hb], by rw [hA.out, hb], hq⟩
  have := hA.kept i (by rw [hb]; exact hi) (by rw [ho]; exact fun h => h)
  rw [this, hb]

def leaveK (E : EP) (fn : Func) (k : Res → BT XO → Nat → Bool) (res : Res) (H : BT XO) (n : Nat) : Bool := match res with
  | .ex .normal F ds => leaveEv E fn F k ds H n
  | .ex .ret F ds => leaveEv E fn F k ds H n
  | _ => false

/-- what is left of a function, evaluated -/
theorem rest_ok {P : Program} {E : EP} {fn : Func} {f N n m : Nat} {c : Code} {F : BT Value} {H : BT XO} {k : Res → BT XO → Nat → Bool} {W0 : AHeap} (hE : EOk P W0 E) (h : evF E m (.code none f N c F []) H n (leaveK E fn k) = true)
    {R : RelB} {A : AHeap} {t : Array Value} (hx : HX W0 R n H A) (hF : FR R N F t) : CodeX none P c t [] A (doneX P fn (ValPost W0 R fun v H n => k (.val v) H n)) := by
  refine ((evF_ok hE m).code _ _ _ _ _ _ _ _ _ h R A t [] none (.inl ⟨rfl, rfl⟩) hx hF .nil).mono ?_
  rintro e t1 defs1 A1 _ ⟨R1, F1, ds1, H1, n1, q1, q2, q3, q4, q5⟩
  cases e with
  | normal => exact leaveEv_ok hE.hT q3 q5 q1 q2 q4
  | ret => exact leaveEv_ok hE.hT q3 q5 q1 q2 q4
  | _ => cases q5

/-- one block that is known -/
theorem HX.one {A : AHeap} {b : Nat} {cs : List Value} {op : Bool} (hA : SL A [(b, .cells cs op true)]) (hop : op = false) (hf : cs.all flatB = true) :
    HX { A with next := 0 } (fun x y z => x = 0 ∧ y = b ∧ z = 0) 1 (.node (some (.cells cs 1 0 0 false true)) .leaf .leaf) A := by
  subst hop
  obtain ⟨h1, h2⟩ := hA.2 _ List.mem_cons_self
  have hg : ∀ {i : Nat} {x : XO}, (BT.node (some (XO.cells cs 1 0 0 false true)) .leaf .leaf).get i = some x → i = 0 ∧ x = .cells cs 1 0 0 false true := by
    intro i x hi
    simp only [BT.get] at hi
    cases h0 : Nat.beq i 0 with
    | true =>
      rw [h0] at hi
      simp only [cond_true, Option.some.injEq] at hi
      exact ⟨Nat.eq_of_beq_eq_true h0, hi.symm⟩
    | false =>
      rw [h0] at hi
      cases Nat.beq (i % 2) 1 <;> simp [BT.get] at hi
  refine ⟨?_, ?_, ?_, ?_, ?_, Nat.zero_le _, fun _ _ _ _ => Nat.zero_le _⟩
  · rintro x y z ⟨rfl, rfl, rfl⟩; exact ⟨Nat.zero_lt_one, h2⟩
  · rintro x y z u v ⟨rfl, rfl, rfl⟩ ⟨_, rfl, rfl⟩; exact ⟨rfl, rfl⟩
  · rintro x y z u v p q h3 h4 _ _; rw [(hg h3).1, (hg h4).1]
  · intro i x hi
    obtain ⟨rfl, rfl⟩ := hg hi
    refine ⟨b, 0, ⟨rfl, rfl, rfl⟩, cs, false, true, h1, fun _ => rfl, Nat.le_refl _, all_flat_one hf, ?_, fun _ => rfl, fun h => by cases h⟩
    rw [List.take_length]
    exact .refl_flat hf
  · intro b' hb' _
    exact absurd hb' (Nat.not_lt_zero _)
end Go.Am
