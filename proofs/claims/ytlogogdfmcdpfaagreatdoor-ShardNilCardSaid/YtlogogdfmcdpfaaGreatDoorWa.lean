/-
A partial memory, and what a piece of code does there.
-/
import Derived.Calls
import Derived.StillTail
import Derived.Tactics
import Derived.Laws.Sem
import Derived.Orders
set_option linter.all false
namespace Go.Am
open Go

inductive AObj where
  | none
  | cells (vs : List Value) (op wr : Bool)
  | obj (o : Obj) (wr : Bool)

structure AHeap where
  get : Nat → AObj
  next : Nat
  base : World
  own : Nat → Prop

def AHeap.push (A : AHeap) (x : AObj) : AHeap := { A with get := fun i => if i = A.next then x else A.get i, next := A.next + 1 }
def AHeap.set (A : AHeap) (b : Nat) (x : AObj) : AHeap := { A with get := fun i => if i = b then x else A.get i }

def notCells : Obj → Bool
  | .cells .. => false
  | _ => true

def AObj.of : Obj → AObj
  | .cells c _ (lo, hi) => .cells c.toList false (decide (lo = hi))
  | o => .obj o true

theorem AObj.of_cells {o : Obj} {vs : List Value} {op wr : Bool} (h : AObj.of o = .cells vs op wr) :
    ∃ c e lo hi, o = .cells c e (lo, hi) ∧ vs = c.toList ∧ op = false ∧ wr = decide (lo = hi) := by
  cases o with
  | cells c e fz =>
    obtain ⟨lo, hi⟩ := fz
    simp only [AObj.of, AObj.cells.injEq] at h
    exact ⟨c, e, lo, hi, rfl, h.1.symm, h.2.1.symm, h.2.2.symm⟩
  | _ => simp [AObj.of] at h

theorem AObj.of_obj {o o' : Obj} {wr : Bool} (h : AObj.of o = .obj o' wr) : notCells o = true ∧ o' = o ∧ wr = true := by
  cases o with
  | cells c e fz => simp [AObj.of] at h
  | _ =>
    simp only [AObj.of, AObj.obj.injEq] at h
    exact ⟨rfl, h.1.symm, h.2.symm⟩

def AHeap.may (A : AHeap) (b : Nat) : Prop := A.own b ∨ A.base.heap.size ≤ b

structure HR (A : AHeap) (w : World) : Prop where
  next : w.heap.size = A.next
  le : A.base.heap.size ≤ A.next
  cells : ∀ b vs op wr, A.get b = .cells vs op wr → ∃ cs e fz, w.heap[b]? = some (.cells cs e fz) ∧
    (∀ (i : Nat) (v : Value), vs[i]? = some v → cs[i]? = some v) ∧ (op = false → cs.size = vs.length) ∧ (wr = true → fz.1 = fz.2 ∧ A.may b)
  obj : ∀ b o wr, A.get b = .obj o wr → w.heap[b]? = some o ∧ notCells o = true ∧ (wr = true → A.may b)
  kept : ∀ b, b < A.base.heap.size → ¬ A.own b → w.heap[b]? = A.base.heap[b]?
  os : w.os = A.base.os
  out : w.output = A.base.output
  tape : w.tape = A.base.tape

def AHeap.cell? (A : AHeap) (a : Addr) : Option Value :=
  match A.get a.block with
  | .cells vs _ _ => if a.spot.isSome then none else vs[a.off]?
  | _ => none

def AHeap.isCells (A : AHeap) (b : Nat) : Prop := ∃ vs op wr, A.get b = .cells vs op wr

variable {α β : Type}

def wpA (P : Program) : Sem α → AHeap → (α → AHeap → Prop) → Prop
  | .pure a, A, Q => Q a A
  | .load _ a k, A, Q => ∃ v, A.cell? a = some v ∧ wpA P (k v) A Q
  | .store _ a v k, A, Q => ∃ vs op, A.get a.block = .cells vs op true ∧ a.spot = none ∧ a.off < vs.length ∧ v.oneCell' = true ∧
      wpA P k (A.set a.block (.cells (vs.set a.off v) op true)) Q
  | .new o k, A, Q => wpA P (k A.next) (A.push (.of o)) Q
  | .shape r k, A, Q => match A.get r with
    | .obj _ _ => wpA P (k none) A Q
    | .cells vs op _ => ∀ e n, vs.length ≤ n → (op = false → n = vs.length) → wpA P (k (some (e, n))) A Q
    | .none => ∀ s, wpA P (k s) A Q
  | .freeze a _ k, A, Q => ∃ vs, A.get a.block = .cells vs false true ∧ wpA P k (A.set a.block (.cells vs false false)) Q
  | .frozen a k, A, Q => match A.get a.block with
    | .cells vs _ true => if a.off < vs.length then wpA P (k false) A Q else ∀ b, wpA P (k b) A Q
    | .obj _ _ => wpA P (k false) A Q
    | _ => ∀ b, wpA P (k b) A Q
  | .getObj r k, A, Q => ∃ o wr, A.get r = .obj o wr ∧ wpA P (k o) A Q
  | .setObj r o k, A, Q => ∃ o', A.get r = .obj o' true ∧ notCells o = true ∧ wpA P k (A.set r (.obj o true)) Q
  | .choose q k, A, Q => if q.forced then wpA P (k 0) A Q else ∀ t, wpA P (k (q.cut t)) A Q
  | .sys .., _, _ => False
  | .program k, A, Q => wpA P (k P) A Q
  | .mark _ k, A, Q => wpA P k A Q
  | .halt _, _, _ => False

theorem HR.drew {A : AHeap} {w : World} (h : HR A w) : HR A { w with drawn := w.drawn + 1 } :=
  ⟨h.next, h.le, h.cells, h.obj, h.kept, h.os, h.out, h.tape⟩

theorem HR.cell {A : AHeap} {w : World} (h : HR A w) {a : Addr} {v : Value} (hc : A.cell? a = some v) : w.cell? a = some v := by
  unfold AHeap.cell? at hc
  split at hc
  · rename_i vs op wr hg
    obtain ⟨cs, e, fz, hw, hpre, _⟩ := h.cells _ _ _ _ hg
    split at hc
    · cases hc
    · rename_i hs
      simp only [World.cell?, hw]
      rw [if_neg hs]
      exact hpre _ _ hc
  · cases hc

theorem HR.get_lt {A : AHeap} {w : World} (h : HR A w) {b : Nat} (hb : A.get b ≠ .none) : b < A.next := by
  rw [← h.next]
  cases hg : A.get b with
  | none => exact absurd hg hb
  | cells vs op wr =>
    obtain ⟨cs, e, fz, hw, _⟩ := h.cells _ _ _ _ hg
    exact (Array.getElem?_eq_some_iff.1 hw).1
  | obj o wr =>
    obtain ⟨hw, _⟩ := h.obj _ _ _ hg
    exact (Array.getElem?_eq_some_iff.1 hw).1

theorem HR.push {A : AHeap} {w : World} (h : HR A w) (o : Obj) : HR (A.push (.of o)) { w with heap := w.heap.push o } := by
  have hn := h.next
  have hsz : ∀ b, (w.heap.push o)[b]? = if b = w.heap.size then some o else w.heap[b]? := fun b => by
    rw [Array.getElem?_push]
  have hmay : A.may A.next := .inr h.le
  refine ⟨by simp [AHeap.push, hn], Nat.le_succ_of_le h.le, ?_, ?_, ?_, h.os, h.out, h.tape⟩
  · intro b vs op wr hg
    simp only [AHeap.push] at hg
    by_cases hb : b = A.next
    · subst hb
      simp only [if_true] at hg
      obtain ⟨c, e, lo, hi, rfl, rfl, rfl, rfl⟩ := AObj.of_cells hg
      refine ⟨c, e, (lo, hi), by show (w.heap.push _)[A.next]? = _; rw [hsz, if_pos hn.symm], fun i v hv => by simpa using hv, fun _ => by simp, fun hw => ⟨of_decide_eq_true hw, hmay⟩⟩
    · rw [if_neg hb] at hg
      obtain ⟨cs, e, fz, hw, h1, h2, h3⟩ := h.cells _ _ _ _ hg
      exact ⟨cs, e, fz, by simp [hsz, hn, hb, hw], h1, h2, h3⟩
  · intro b o' wr hg
    simp only [AHeap.push] at hg
    by_cases hb : b = A.next
    · subst hb
      simp only [if_true] at hg
      obtain ⟨ho, rfl, rfl⟩ := AObj.of_obj hg
      exact ⟨by show (w.heap.push _)[A.next]? = _; rw [hsz, if_pos hn.symm], ho, fun _ => hmay⟩
    · rw [if_neg hb] at hg
      obtain ⟨hw, h1, h2⟩ := h.obj _ _ _ hg
      exact ⟨by simp [hsz, hn, hb, hw], h1, h2⟩
  · intro b hb hm
    have hlt : b ≠ w.heap.size := by
      have := h.le
      have hb' : b < A.base.heap.size := hb
      omega
    have := h.kept b hb hm
    simp only [AHeap.push]
    rw [hsz, if_neg hlt]; exact this

theorem modify_get (h : Array Obj) (b c : Nat) (f : Obj → Obj) : (h.modify b f)[c]? = if c = b then (h[c]?).map f else h[c]? := by
  rw [Array.getElem?_modify]
  by_cases hb : b = c
  · simp [hb]
  · simp [hb, Ne.symm hb]

theorem HR.notFrozen {A : AHeap} {w : World} (h : HR A w) {a : Addr} {vs : List Value} {op : Bool} (hg : A.get a.block = .cells vs op true) (hlt : a.off < vs.length) : w.frozen? a = false := by
  obtain ⟨cs, e, fz, hw, hpre, _, hwr⟩ := h.cells _ _ _ _ hg
  obtain ⟨hfz, _⟩ := hwr rfl
  obtain ⟨lo, hi⟩ := fz
  have hcs : a.off < cs.size := by
    have := hpre a.off _ (List.getElem?_eq_getElem hlt)
    exact (Array.getElem?_eq_some_iff.1 this).1
  simp only [World.frozen?, hw]
  have hfz' : lo = hi := hfz
  by_cases h1 : lo ≤ a.off
  · have h2 : ¬ a.off < hi := by omega
    simp [h2]
  · simp [h1]

theorem HR.freeze {A : AHeap} {w : World} (h : HR A w) {a : Addr} {n : Nat} {vs : List Value} (hg : A.get a.block = .cells vs false true) : HR (A.set a.block (.cells vs false false)) (w.freeze a n) := by
  obtain ⟨cs, e, fz, hw, hpre, hex, hwr⟩ := h.cells _ _ _ _ hg
  obtain ⟨hfz, hmay⟩ := hwr rfl
  obtain ⟨f2, hheap⟩ : ∃ f2 : Nat × Nat, ∀ c, (w.freeze a n).heap[c]? = if c = a.block then some (.cells cs e f2) else w.heap[c]? := by
    by_cases hn0 : n = 0
    · have hwn : w.freeze a n = w := by simp [World.freeze, hn0]
      refine ⟨fz, fun c => ?_⟩
      rw [hwn]
      by_cases hc : c = a.block
      · subst hc; simp [hw]
      · simp [hc]
    · obtain ⟨lo, hi⟩ := fz
      refine ⟨if lo == hi then (a.off, a.off + n) else (min lo a.off, max hi (a.off + n)), fun c => ?_⟩
      simp only [World.freeze, if_neg hn0]
      rw [modify_get]
      by_cases hc : c = a.block
      · subst hc; simp [hw]
      · simp [hc]
  have hfs : (w.freeze a n).heap.size = w.heap.size := by
    by_cases hn0 : n = 0 <;> simp [World.freeze, hn0]
  have hos : (w.freeze a n).os = w.os ∧ (w.freeze a n).output = w.output ∧ (w.freeze a n).tape = w.tape := by
    by_cases hn0 : n = 0 <;> simp [World.freeze, hn0]
  refine ⟨by rw [hfs]; exact h.next, h.le, ?_, ?_, ?_, hos.1.trans h.os, hos.2.1.trans h.out, hos.2.2.trans h.tape⟩
  · intro b vs' op' wr' hg'
    simp only [AHeap.set] at hg'
    by_cases hb : b = a.block
    · subst hb
      simp only [if_true, AObj.cells.injEq] at hg'
      obtain ⟨rfl, rfl, rfl⟩ := hg'
      exact ⟨cs, e, f2, by rw [hheap, if_pos rfl], hpre, hex, fun hc => by cases hc⟩
    · rw [if_neg hb] at hg'
      obtain ⟨cs', e', fz', hw', h1, h2, h3⟩ := h.cells _ _ _ _ hg'
      exact ⟨cs', e', fz', by rw [hheap, if_neg hb]; exact hw', h1, h2, h3⟩
  · intro b o wr hg'
    simp only [AHeap.set] at hg'
    by_cases hb : b = a.block
    · subst hb; simp at hg'
    · rw [if_neg hb] at hg'
      obtain ⟨hw', h1, h2⟩ := h.obj _ _ _ hg'
      exact ⟨by rw [hheap, if_neg hb]; exact hw', h1, h2⟩
  · intro b hb hm
    have hb' : b < A.base.heap.size := hb
    have hne : b ≠ a.block := by
      intro he
      subst he
      rcases hmay with hm' | hm'
      · exact hm hm'
      · omega
    rw [hheap, if_neg hne]
    exact h.kept b hb hm

theorem HR.store {A : AHeap} {w : World} (h : HR A w) {a : Addr} {v : Value} {vs : List Value} {op : Bool} (hg : A.get a.block = .cells vs op true)
    (hs : a.spot = none) (hlt : a.off < vs.length) : w.cell? a ≠ none ∧ w.frozen? a = false ∧ HR (A.set a.block (.cells (vs.set a.off v) op true)) (w.setCell a v) := by
  obtain ⟨cs, e, fz, hw, hpre, hex, hwr⟩ := h.cells _ _ _ _ hg
  obtain ⟨hfz, hmay⟩ := hwr rfl
  have hcs : a.off < cs.size := by
    have := hpre a.off _ (List.getElem?_eq_getElem hlt)
    exact (Array.getElem?_eq_some_iff.1 this).1
  have hheap : ∀ c, (w.setCell a v).heap[c]? = if c = a.block then some (.cells (cs.setIfInBounds a.off v) e fz) else w.heap[c]? := fun c => by
    simp only [World.setCell]
    rw [modify_get]
    by_cases hc : c = a.block
    · subst hc; simp [hw, hs]
    · simp [hc]
  refine ⟨by simp [World.cell?, hw, hs, hcs], ?_, ?_⟩
  · exact h.notFrozen hg hlt
  · refine ⟨by simp [AHeap.set, h.next], h.le, ?_, ?_, ?_, h.os, h.out, h.tape⟩
    · intro b vs' op' wr' hg'
      simp only [AHeap.set] at hg'
      by_cases hb : b = a.block
      · subst hb
        simp only [if_true] at hg'
        simp only [AObj.cells.injEq] at hg'
        obtain ⟨rfl, rfl, rfl⟩ := hg'
        refine ⟨cs.setIfInBounds a.off v, e, fz, by rw [hheap, if_pos rfl], ?_, fun ho => by simp [hex ho], fun _ => ⟨by simpa using hfz, hmay⟩⟩
        intro i u hu
        by_cases hi : i = a.off
        · subst hi
          rw [List.getElem?_set_self hlt] at hu
          rw [Array.getElem?_setIfInBounds_self_of_lt hcs]; exact hu
        · rw [List.getElem?_set_ne (Ne.symm hi)] at hu
          rw [Array.getElem?_setIfInBounds_ne (Ne.symm hi)]; exact hpre _ _ hu
      · rw [if_neg hb] at hg'
        obtain ⟨cs', e', fz', hw', h1, h2, h3⟩ := h.cells _ _ _ _ hg'
        exact ⟨cs', e', fz', by rw [hheap, if_neg hb]; exact hw', h1, h2, h3⟩
    · intro b o wr hg'
      simp only [AHeap.set] at hg'
      by_cases hb : b = a.block
      · subst hb; simp at hg'
      · rw [if_neg hb] at hg'
        obtain ⟨hw', h1, h2⟩ := h.obj _ _ _ hg'
        exact ⟨by rw [hheap, if_neg hb]; exact hw', h1, h2⟩
    · intro b hb hm
      have hb' : b < A.base.heap.size := hb
      have hne : b ≠ a.block := by
        intro he
        subst he
        rcases hmay with hm' | hm'
        · exact hm hm'
        · omega
      rw [hheap, if_neg hne]
      exact h.kept b hb hm

theorem HR.setObj {A : AHeap} {w : World} (h : HR A w) {r : Nat} {o o' : Obj} (hg : A.get r = .obj o' true) (ho : notCells o = true) :
    HR (A.set r (.obj o true)) { w with heap := w.heap.setIfInBounds r o } := by
  obtain ⟨hw, hn, hmay⟩ := h.obj _ _ _ hg
  have hmay := hmay rfl
  have hlt : r < w.heap.size := (Array.getElem?_eq_some_iff.1 hw).1
  have hheap : ∀ c, (w.heap.setIfInBounds r o)[c]? = if c = r then some o else w.heap[c]? := fun c => by
    by_cases hc : c = r
    · subst hc; simp [hlt]
    · rw [if_neg hc, Array.getElem?_setIfInBounds_ne (Ne.symm hc)]
  refine ⟨by simp [AHeap.set, h.next], h.le, ?_, ?_, ?_, h.os, h.out, h.tape⟩
  · intro b vs op wr hg'
    simp only [AHeap.set] at hg'
    by_cases hb : b = r
    · subst hb; simp at hg'
    · rw [if_neg hb] at hg'
      obtain ⟨cs', e', fz', hw', h1, h2, h3⟩ := h.cells _ _ _ _ hg'
      exact ⟨cs', e', fz', by rw [hheap, if_neg hb]; exact hw', h1, h2, h3⟩
  · intro b o1 wr hg'
    simp only [AHeap.set] at hg'
    by_cases hb : b = r
    · subst hb
      simp only [if_true, AObj.obj.injEq] at hg'
      obtain ⟨rfl, rfl⟩ := hg'
      exact ⟨by rw [hheap, if_pos rfl], ho, fun _ => hmay⟩
    · rw [if_neg hb] at hg'
      obtain ⟨hw', h1, h2⟩ := h.obj _ _ _ hg'
      exact ⟨by rw [hheap, if_neg hb]; exact hw', h1, h2⟩
  · intro b hb hm
    have hb' : b < A.base.heap.size := hb
    have hne : b ≠ r := by
      intro he
      subst he
      rcases hmay with hm' | hm'
      · exact hm hm'
      · omega
    rw [hheap, if_neg hne]
    exact h.kept b hb hm

def Same (A B : AHeap) : Prop := B.base = A.base ∧ B.own = A.own

theorem Same.refl (A : AHeap) : Same A A := ⟨rfl, rfl⟩
theorem Same.trans {A B C : AHeap} (h : Same A B) (k : Same B C) : Same A C := ⟨k.1.trans h.1, k.2.trans h.2⟩

theorem wpA_sound {P : Program} (s : Sem α) : ∀ {A : AHeap} {w : World} {Q : α → AHeap → Prop}, HR A w → wpA P s A Q →
    ∃ a A' w', s.run P w = .ok a w' ∧ HR A' w' ∧ Same A A' ∧ Q a A' := by
  induction s with
  | pure a => intro A w Q h hq; exact ⟨a, A, w, rfl, h, .refl _, hq⟩
  | load m a k ih =>
    intro A w Q h hq
    obtain ⟨v, hv, hq⟩ := hq
    obtain ⟨x, A', w', hr, hA, hs, hQ⟩ := ih v h hq
    exact ⟨x, A', w', by simp only [Sem.run, h.cell hv]; exact hr, hA, hs, hQ⟩
  | store m a v k ih =>
    intro A w Q h hq
    obtain ⟨vs, op, hg, hs, hlt, h1, hq⟩ := hq
    obtain ⟨hc, hf, hA⟩ := h.store (v := v) hg hs hlt
    obtain ⟨x, A', w', hr, hA', hs', hQ⟩ := ih hA hq
    refine ⟨x, A', w', ?_, hA', ⟨hs'.1, hs'.2⟩, hQ⟩
    obtain ⟨u, hu⟩ := Option.ne_none_iff_exists'.1 hc
    cases v <;> first | (simp [Value.oneCell'] at h1; done) | (simp only [Sem.run, hu, hf]; exact hr)
  | new o k ih =>
    intro A w Q h hq
    obtain ⟨x, A', w', hr, hA, hs, hQ⟩ := ih A.next (h.push o) hq
    exact ⟨x, A', w', by simp only [Sem.run, h.next]; exact hr, hA, ⟨hs.1, hs.2⟩, hQ⟩
  | shape r k ih =>
    intro A w Q h hq
    simp only [wpA] at hq
    cases hg : A.get r with
    | obj o wr =>
      rw [hg] at hq
      obtain ⟨x, A', w', hr, hA, hs, hQ⟩ := ih none h hq
      obtain ⟨hw, hn, _⟩ := h.obj _ _ _ hg
      refine ⟨x, A', w', ?_, hA, hs, hQ⟩
      have : w.shape? r = none := by
        simp only [World.shape?, hw]
        cases o <;> first | rfl | simp [notCells] at hn
      simp only [Sem.run, this]; exact hr
    | cells vs op wr =>
      rw [hg] at hq
      obtain ⟨cs, e, fz, hw, hpre, hex, _⟩ := h.cells _ _ _ _ hg
      have hlen : vs.length ≤ cs.size := by
        rcases Nat.eq_zero_or_pos vs.length with h0 | h0
        · omega
        · have := hpre (vs.length - 1) _ (List.getElem?_eq_getElem (by omega))
          have := (Array.getElem?_eq_some_iff.1 this).1
          omega
      obtain ⟨x, A', w', hr, hA, hs, hQ⟩ := ih (some (e, cs.size)) h (hq e cs.size hlen hex)
      exact ⟨x, A', w', by simp only [Sem.run, World.shape?, hw]; exact hr, hA, hs, hQ⟩
    | none =>
      rw [hg] at hq
      obtain ⟨x, A', w', hr, hA, hs, hQ⟩ := ih (w.shape? r) h (hq _)
      exact ⟨x, A', w', by simp only [Sem.run]; exact hr, hA, hs, hQ⟩
  | freeze a n k ih =>
    intro A w Q h hq
    obtain ⟨vs, hg, hq⟩ := hq
    obtain ⟨x, A', w', hr, hA, hs, hQ⟩ := ih (h.freeze (n := n) hg) hq
    exact ⟨x, A', w', by simp only [Sem.run]; exact hr, hA, ⟨hs.1, hs.2⟩, hQ⟩
  | frozen a k ih =>
    intro A w Q h hq
    simp only [wpA] at hq
    have hb : wpA P (k (w.frozen? a)) A Q := by
      cases hg : A.get a.block with
      | obj o wr =>
        rw [hg] at hq
        obtain ⟨hw, hn, _⟩ := h.obj _ _ _ hg
        have : w.frozen? a = false := by
          simp only [World.frozen?, hw]
          cases o <;> first | rfl | simp [notCells] at hn
        rw [this]; exact hq
      | cells vs op wr =>
        rw [hg] at hq
        cases wr with
        | true =>
          simp only at hq
          split at hq
          · rename_i hlt; rw [h.notFrozen hg hlt]; exact hq
          · exact hq _
        | false => exact hq _
      | none => rw [hg] at hq; exact hq _
    obtain ⟨x, A', w', hr, hA, hs, hQ⟩ := ih _ h hb
    exact ⟨x, A', w', by simp only [Sem.run]; exact hr, hA, hs, hQ⟩
  | getObj r k ih =>
    intro A w Q h hq
    obtain ⟨o, wr, hg, hq⟩ := hq
    obtain ⟨hw, hn, _⟩ := h.obj _ _ _ hg
    obtain ⟨x, A', w', hr, hA, hs, hQ⟩ := ih o h hq
    refine ⟨x, A', w', ?_, hA, hs, hQ⟩
    simp only [Sem.run, hw]
    cases o <;> first | exact hr | simp [notCells] at hn
  | setObj r o k ih =>
    intro A w Q h hq
    obtain ⟨o', hg, hn, hq⟩ := hq
    obtain ⟨hw, hn', _⟩ := h.obj _ _ _ hg
    obtain ⟨x, A', w', hr, hA, hs, hQ⟩ := ih (h.setObj hg hn) hq
    refine ⟨x, A', w', ?_, hA, ⟨hs.1, hs.2⟩, hQ⟩
    simp only [Sem.run, hw]
    cases o' <;> first | exact hr | simp [notCells] at hn'
  | choose q k ih =>
    intro A w Q h hq
    simp only [wpA] at hq
    by_cases hf : q.forced = true
    · rw [if_pos hf] at hq
      obtain ⟨x, A', w', hr, hA, hs, hQ⟩ := ih 0 h hq
      exact ⟨x, A', w', by simp only [Sem.run]; rw [if_pos hf]; exact hr, hA, hs, hQ⟩
    · rw [if_neg hf] at hq
      obtain ⟨x, A', w', hr, hA, hs, hQ⟩ := ih _ h.drew (hq (w.tape w.drawn q))
      exact ⟨x, A', w', by simp only [Sem.run]; rw [if_neg hf]; exact hr, hA, hs, hQ⟩
  | sys c k ih => intro A w Q h hq; exact hq.elim
  | program k ih =>
    intro A w Q h hq
    obtain ⟨x, A', w', hr, hA, hs, hQ⟩ := ih P h hq
    exact ⟨x, A', w', by simp only [Sem.run]; exact hr, hA, hs, hQ⟩
  | mark m k ih =>
    intro A w Q h hq
    obtain ⟨x, A', w', hr, hA, hs, hQ⟩ := ih h hq
    exact ⟨x, A', w', by simp only [Sem.run]; exact hr, hA, hs, hQ⟩
  | halt e => intro A w Q h hq; exact hq.elim

theorem wpA_mono {P : Program} (s : Sem α) : ∀ {A : AHeap} {Q R : α → AHeap → Prop}, (∀ a A', Same A A' → Q a A' → R a A') → wpA P s A Q → wpA P s A R := by
  induction s with
  | pure a => intro A Q R h hq; exact h _ _ (.refl _) hq
  | load m a k ih => intro A Q R h hq; obtain ⟨v, hv, hq⟩ := hq; exact ⟨v, hv, ih v h hq⟩
  | store m a v k ih =>
    intro A Q R h hq
    obtain ⟨vs, op, hg, hs, hlt, h1, hq⟩ := hq
    exact ⟨vs, op, hg, hs, hlt, h1, ih (fun a A' hs => h a A' ⟨hs.1, hs.2⟩) hq⟩
  | new o k ih => intro A Q R h hq; exact ih A.next (fun a A' hs => h a A' ⟨hs.1, hs.2⟩) hq
  | shape r k ih =>
    intro A Q R h hq
    simp only [wpA] at hq ⊢
    cases hg : A.get r with
    | obj o wr => rw [hg] at hq; exact ih _ h hq
    | cells vs op wr => rw [hg] at hq; exact fun e n h1 h2 => ih _ h (hq e n h1 h2)
    | none => rw [hg] at hq; exact fun s => ih _ h (hq s)
  | freeze a n k ih => intro A Q R h hq; obtain ⟨vs, hg, hq⟩ := hq; exact ⟨vs, hg, ih h hq⟩
  | frozen a k ih =>
    intro A Q R h hq
    simp only [wpA] at hq ⊢
    cases hg : A.get a.block with
    | obj o wr => rw [hg] at hq; exact ih _ h hq
    | cells vs op wr =>
      rw [hg] at hq
      cases wr with
      | true =>
        simp only at hq ⊢
        split at hq
        · rename_i hlt; rw [if_pos hlt]; exact ih _ h hq
        · rename_i hlt; rw [if_neg hlt]; exact fun b => ih _ h (hq b)
      | false => exact fun b => ih _ h (hq b)
    | none => rw [hg] at hq; exact fun s => ih _ h (hq s)
  | getObj r k ih => intro A Q R h hq; obtain ⟨o, wr, hg, hq⟩ := hq; exact ⟨o, wr, hg, ih o h hq⟩
  | setObj r o k ih => intro A Q R h hq; obtain ⟨o', hg, hn, hq⟩ := hq; exact ⟨o', hg, hn, ih (fun a A' hs => h a A' ⟨hs.1, hs.2⟩) hq⟩
  | choose q k ih =>
    intro A Q R h hq
    simp only [wpA] at hq ⊢
    by_cases hf : q.forced = true
    · rw [if_pos hf] at hq ⊢; exact ih _ h hq
    · rw [if_neg hf] at hq ⊢; exact fun t => ih _ h (hq t)
  | sys c k ih => intro A Q R h hq; exact hq
  | program k ih => intro A Q R h hq; exact ih P h hq
  | mark m k ih => intro A Q R h hq; exact ih h hq
  | halt e => intro A Q R h hq; exact hq

theorem wpA_bind' {P : Program} (s : Sem α) (f : α → Sem β) : ∀ {A : AHeap} {Q : β → AHeap → Prop},
    wpA P (s.bind f) A Q = wpA P s A (fun a A' => wpA P (f a) A' Q) := by
  induction s with
  | pure a => intro A Q; rfl
  | load m a k ih => intro A Q; simp only [Sem.bind, wpA, ih]
  | store m a v k ih => intro A Q; simp only [Sem.bind, wpA, ih]
  | new o k ih => intro A Q; simp only [Sem.bind, wpA, ih]
  | shape r k ih => intro A Q; simp only [Sem.bind, wpA, ih]
  | freeze a n k ih => intro A Q; simp only [Sem.bind, wpA, ih]
  | frozen a k ih => intro A Q; simp only [Sem.bind, wpA, ih]
  | getObj r k ih => intro A Q; simp only [Sem.bind, wpA, ih]
  | setObj r o k ih => intro A Q; simp only [Sem.bind, wpA, ih]
  | choose q k ih => intro A Q; simp only [Sem.bind, wpA, ih]
  | sys c k ih => intro A Q; rfl
  | program k ih => intro A Q; simp only [Sem.bind, wpA, ih]
  | mark m k ih => intro A Q; simp only [Sem.bind, wpA, ih]
  | halt e => intro A Q; rfl

theorem wpA_bind {P : Program} (s : Sem α) (f : α → Sem β) {A : AHeap} {Q : β → AHeap → Prop} :
    wpA P (s >>= f) A Q = wpA P s A (fun a A' => wpA P (f a) A' Q) := wpA_bind' s f

theorem wpA_pure {P : Program} (a : α) {A : AHeap} {Q : α → AHeap → Prop} : wpA P (Pure.pure a : Sem α) A Q = Q a A := rfl

/-- what only reads -/
def wpR (P : Program) : Sem α → AHeap → (α → Prop) → Prop
  | .pure a, _, Q => Q a
  | .load _ a k, A, Q => ∃ v, A.cell? a = some v ∧ wpR P (k v) A Q
  | .shape r k, A, Q => match A.get r with
    | .obj _ _ => wpR P (k none) A Q
    | .cells vs op _ => ∀ e n, vs.length ≤ n → (op = false → n = vs.length) → wpR P (k (some (e, n))) A Q
    | .none => ∀ s, wpR P (k s) A Q
  | .frozen a k, A, Q => match A.get a.block with
    | .cells vs _ true => if a.off < vs.length then wpR P (k false) A Q else ∀ b, wpR P (k b) A Q
    | .obj _ _ => wpR P (k false) A Q
    | _ => ∀ b, wpR P (k b) A Q
  | .getObj r k, A, Q => ∃ o wr, A.get r = .obj o wr ∧ wpR P (k o) A Q
  | .choose q k, A, Q => q.forced = true ∧ wpR P (k 0) A Q
  | .program k, A, Q => wpR P (k P) A Q
  | .mark _ k, A, Q => wpR P k A Q
  | _, _, _ => False

theorem wpA_of_wpR {P : Program} (s : Sem α) : ∀ {A : AHeap} {Q : α → Prop}, wpR P s A Q → wpA P s A (fun a A' => A' = A ∧ Q a) := by
  induction s with
  | pure a => intro A Q hq; exact ⟨rfl, hq⟩
  | load m a k ih => intro A Q hq; obtain ⟨v, hv, hq⟩ := hq; exact ⟨v, hv, ih v hq⟩
  | shape r k ih =>
    intro A Q hq
    simp only [wpA, wpR] at hq ⊢
    cases hg : A.get r with
    | obj o wr => rw [hg] at hq; exact ih _ hq
    | cells vs op wr => rw [hg] at hq; exact fun e n h1 h2 => ih _ (hq e n h1 h2)
    | none => rw [hg] at hq; exact fun s => ih _ (hq s)
  | frozen a k ih =>
    intro A Q hq
    simp only [wpA, wpR] at hq ⊢
    cases hg : A.get a.block with
    | obj o wr => rw [hg] at hq; exact ih _ hq
    | cells vs op wr =>
      rw [hg] at hq
      cases wr with
      | true =>
        simp only at hq ⊢
        split at hq
        · rename_i hlt; rw [if_pos hlt]; exact ih _ hq
        · rename_i hlt; rw [if_neg hlt]; exact fun b => ih _ (hq b)
      | false => exact fun b => ih _ (hq b)
    | none => rw [hg] at hq; exact fun s => ih _ (hq s)
  | getObj r k ih => intro A Q hq; obtain ⟨o, wr, hg, hq⟩ := hq; exact ⟨o, wr, hg, ih o hq⟩
  | choose q k ih => intro A Q hq; simp only [wpA]; rw [if_pos hq.1]; exact ih _ hq.2
  | program k ih => intro A Q hq; exact ih P hq
  | mark m k ih => intro A Q hq; exact ih hq
  | _ => intro A Q hq; exact hq.elim

theorem wpR_run {P : Program} (s : Sem α) : ∀ {A : AHeap} {w : World} {Q : α → Prop}, HR A w → wpR P s A Q → ∃ a, s.run P w = .ok a w ∧ Q a := by
  induction s with
  | pure a => intro A w Q _ hq; exact ⟨a, rfl, hq⟩
  | load m a k ih => intro A w Q h hq; obtain ⟨v, hv, hq⟩ := hq; obtain ⟨x, hr, hx⟩ := ih v h hq; exact ⟨x, by simp only [Sem.run, h.cell hv]; exact hr, hx⟩
  | shape r k ih =>
    intro A w Q h hq
    have hs : wpR P (k (w.shape? r)) A Q := by
      simp only [wpR] at hq
      cases hg : A.get r with
      | obj o wr =>
        rw [hg] at hq
        obtain ⟨hw, hn, _⟩ := h.obj _ _ _ hg
        have : w.shape? r = none := by
          simp only [World.shape?, hw]
          cases o <;> first | rfl | simp [notCells] at hn
        rw [this]; exact hq
      | cells vs op wr =>
        rw [hg] at hq
        obtain ⟨cs, e, fz, hw, hpre, hex, _⟩ := h.cells _ _ _ _ hg
        have hlen : vs.length ≤ cs.size := by
          rcases Nat.eq_zero_or_pos vs.length with h0 | h0
          · omega
          · have := hpre (vs.length - 1) _ (List.getElem?_eq_getElem (by omega))
            have := (Array.getElem?_eq_some_iff.1 this).1
            omega
        have hsh : w.shape? r = some (e, cs.size) := by simp only [World.shape?, hw]
        rw [hsh]; exact hq e cs.size hlen hex
      | none => rw [hg] at hq; exact hq _
    obtain ⟨x, hr, hx⟩ := ih _ h hs
    exact ⟨x, by simp only [Sem.run]; exact hr, hx⟩
  | frozen a k ih =>
    intro A w Q h hq
    simp only [wpR] at hq
    have hb : wpR P (k (w.frozen? a)) A Q := by
      cases hg : A.get a.block with
      | obj o wr =>
        rw [hg] at hq
        obtain ⟨hw, hn, _⟩ := h.obj _ _ _ hg
        have : w.frozen? a = false := by
          simp only [World.frozen?, hw]
          cases o <;> first | rfl | simp [notCells] at hn
        rw [this]; exact hq
      | cells vs op wr =>
        rw [hg] at hq
        cases wr with
        | true =>
          simp only at hq
          split at hq
          · rename_i hlt; rw [h.notFrozen hg hlt]; exact hq
          · exact hq _
        | false => exact hq _
      | none => rw [hg] at hq; exact hq _
    obtain ⟨x, hr, hx⟩ := ih _ h hb
    exact ⟨x, by simp only [Sem.run]; exact hr, hx⟩
  | getObj r k ih =>
    intro A w Q h hq
    obtain ⟨o, wr, hg, hq⟩ := hq
    obtain ⟨hw, hn, _⟩ := h.obj _ _ _ hg
    obtain ⟨x, hr, hx⟩ := ih o h hq
    refine ⟨x, ?_, hx⟩
    simp only [Sem.run, hw]
    cases o <;> first | exact hr | simp [notCells] at hn
  | choose q k ih => intro A w Q h hq; obtain ⟨x, hr, hx⟩ := ih _ h hq.2; exact ⟨x, by simp only [Sem.run]; rw [if_pos hq.1]; exact hr, hx⟩
  | program k ih => intro A w Q h hq; obtain ⟨x, hr, hx⟩ := ih P h hq; exact ⟨x, by simp only [Sem.run]; exact hr, hx⟩
  | mark m k ih => intro A w Q h hq; obtain ⟨x, hr, hx⟩ := ih h hq; exact ⟨x, by simp only [Sem.run]; exact hr, hx⟩
  | _ => intro A w Q h hq; exact hq.elim

theorem wpR_mono {P : Program} (s : Sem α) : ∀ {A : AHeap} {Q R : α → Prop}, (∀ a, Q a → R a) → wpR P s A Q → wpR P s A R := by
  induction s with
  | pure a => intro A Q R h hq; exact h _ hq
  | load m a k ih => intro A Q R h hq; obtain ⟨v, hv, hq⟩ := hq; exact ⟨v, hv, ih v h hq⟩
  | shape r k ih =>
    intro A Q R h hq
    simp only [wpR] at hq ⊢
    cases hg : A.get r with
    | obj o wr => rw [hg] at hq; exact ih _ h hq
    | cells vs op wr => rw [hg] at hq; exact fun e n h1 h2 => ih _ h (hq e n h1 h2)
    | none => rw [hg] at hq; exact fun s => ih _ h (hq s)
  | frozen a k ih =>
    intro A Q R h hq
    simp only [wpR] at hq ⊢
    cases hg : A.get a.block with
    | obj o wr => rw [hg] at hq; exact ih _ h hq
    | cells vs op wr =>
      rw [hg] at hq
      cases wr with
      | true =>
        simp only at hq ⊢
        split at hq
        · rename_i hlt; rw [if_pos hlt]; exact ih _ h hq
        · rename_i hlt; rw [if_neg hlt]; exact fun b => ih _ h (hq b)
      | false => exact fun b => ih _ h (hq b)
    | none => rw [hg] at hq; exact fun s => ih _ h (hq s)
  | getObj r k ih => intro A Q R h hq; obtain ⟨o, wr, hg, hq⟩ := hq; exact ⟨o, wr, hg, ih o h hq⟩
  | choose q k ih => intro A Q R h hq; exact ⟨hq.1, ih _ h hq.2⟩
  | program k ih => intro A Q R h hq; exact ih P h hq
  | mark m k ih => intro A Q R h hq; exact ih h hq
  | _ => intro A Q R h hq; exact hq.elim

theorem wpR_bind' {P : Program} (s : Sem α) (f : α → Sem β) : ∀ {A : AHeap} {Q : β → Prop},
    wpR P (s.bind f) A Q = wpR P s A (fun a => wpR P (f a) A Q) := by
  induction s with
  | load m a k ih => intro A Q; simp only [Sem.bind, wpR, ih]
  | shape r k ih => intro A Q; simp only [Sem.bind, wpR, ih]
  | frozen a k ih => intro A Q; simp only [Sem.bind, wpR, ih]
  | getObj r k ih => intro A Q; simp only [Sem.bind, wpR, ih]
  | choose q k ih => intro A Q; simp only [Sem.bind, wpR, ih]
  | program k ih => intro A Q; simp only [Sem.bind, wpR, ih]
  | mark m k ih => intro A Q; simp only [Sem.bind, wpR, ih]
  | _ => intro A Q; rfl

theorem wpR_bind {P : Program} (s : Sem α) (f : α → Sem β) {A : AHeap} {Q : β → Prop} :
    wpR P (s >>= f) A Q = wpR P s A (fun a => wpR P (f a) A Q) := wpR_bind' s f

theorem wpR_pure {P : Program} (a : α) {A : AHeap} {Q : α → Prop} : wpR P (Pure.pure a : Sem α) A Q = Q a := rfl

/-- a small program run where memory is so described -/
def SemA (P : Program) (s : Sem α) (A : AHeap) (Q : α → AHeap → Prop) : Prop :=
  ∀ w, HR A w → ∃ a A' w', s.run P w = .ok a w' ∧ HR A' w' ∧ Same A A' ∧ Q a A'

def SemR (P : Program) (s : Sem α) (A : AHeap) (a : α) : Prop := ∀ w, HR A w → s.run P w = .ok a w

theorem SemA.of_wp {P : Program} {s : Sem α} {A : AHeap} {Q : α → AHeap → Prop} (h : wpA P s A Q) : SemA P s A Q := fun _ hw => wpA_sound s hw h

theorem SemA.mono {P : Program} {s : Sem α} {A : AHeap} {Q R : α → AHeap → Prop} (h : SemA P s A Q) (hr : ∀ a A', Same A A' → Q a A' → R a A') : SemA P s A R :=
  fun w hw => let ⟨a, A', w', h1, h2, h3, h4⟩ := h w hw; ⟨a, A', w', h1, h2, h3, hr _ _ h3 h4⟩

theorem SemA.bind {P : Program} {s : Sem α} {f : α → Sem β} {A : AHeap} {R : α → AHeap → Prop} {Q : β → AHeap → Prop} (h : SemA P s A R) (hf : ∀ a A', Same A A' → R a A' → SemA P (f a) A' Q) :
    SemA P (s >>= f) A Q := by
  intro w hw
  obtain ⟨a, A', w', h1, h2, h3, h4⟩ := h w hw
  obtain ⟨b, A'', w'', k1, k2, k3, k4⟩ := hf a A' h3 h4 w' h2
  exact ⟨b, A'', w'', by rw [Sem.run_bind, h1]; exact k1, k2, h3.trans k3, k4⟩

theorem SemR.of_wp {P : Program} {s : Sem α} {A : AHeap} {a : α} (h : wpR P s A (fun x => x = a)) : SemR P s A a := fun w hw => by
  obtain ⟨x, hr, rfl⟩ := wpR_run s hw h
  exact hr

theorem SemR.sem {P : Program} {s : Sem α} {A : AHeap} {a : α} {Q : α → AHeap → Prop} (h : SemR P s A a) (hq : Q a A) : SemA P s A Q := fun w hw => ⟨a, A, w, h w hw, hw, .refl A, hq⟩

theorem SemR.bind {P : Program} {s : Sem α} {f : α → Sem β} {A : AHeap} {a : α} {b : β} (h : SemR P s A a) (hf : SemR P (f a) A b) : SemR P (s >>= f) A b := fun w hw => by
  rw [Sem.run_bind, h w hw]; exact hf w hw

end Go.Am

namespace Go.Am
open Go

def CallA (P : Program) (f : FuncId) (args : Array Value) (A : AHeap) (Q : Value → AHeap → Prop) : Prop :=
  ∀ w, HR A w → Calls P f args w (fun e w' => ∃ v A', e = .returned v ∧ HR A' w' ∧ Same A A' ∧ Q v A')

theorem CallA.mono {P : Program} {f : FuncId} {args : Array Value} {A : AHeap} {Q R : Value → AHeap → Prop}
    (h : CallA P f args A Q) (hr : ∀ v A', Same A A' → Q v A' → R v A') : CallA P f args A R :=
  fun w hw => (h w hw).mono fun _ _ ⟨v, A', he, hA, hs, hq⟩ => ⟨v, A', he, hA, hs, hr _ _ hs hq⟩

def opNext (P : Program) (K : Value → AHeap → Prop) : Next → AHeap → Prop
  | .value v, A => K v A
  | .skip, A => K undef A
  | .enter f args, A => CallA P f args A K
  | _, _ => False

def opA (P : Program) (o : Oper) (t : Array Value) (A : AHeap) (K : Value → AHeap → Prop) : Prop :=
  SemA P (execOp (Act.eval ⟨t, []⟩) o) A (opNext P K)

def putT (t : Array Value) (dst : Option Tmp) (v : Value) : Array Value :=
  match dst with
  | some d => t.setIfInBounds d v
  | none => t

theorem put_eq (t : Array Value) (dst : Option Tmp) (v : Value) : (Act.mk t []).put dst v = ⟨putT t dst v, []⟩ := by
  cases dst <;> rfl

theorem opA_sound {P : Program} {o : Oper} {t : Array Value} {A : AHeap} {w : World} {K : Value → AHeap → Prop} {Q : Exit → Act → World → Prop}
    {N : Act → World → Prop} (h : HR A w) (hq : opA P o t A K)
    (hn : ∀ v A' w', HR A' w' → Same A A' → K v A' → N ⟨putT t o.dst v, []⟩ w') : o.wp P ⟨t, []⟩ w N Q := by
  unfold Oper.wp
  obtain ⟨nx, A', w', hr, hA, hs, hQ⟩ := hq w h
  rw [hr]
  cases nx <;> simp only [opNext] at hQ <;> try exact hQ.elim
  · simp only [Oper.upon]; rw [put_eq]; exact hn _ _ _ hA hs hQ
  · simp only [Oper.upon]; rw [put_eq]; exact hn _ _ _ hA hs hQ
  · simp only [Oper.upon]
    refine (hQ w' hA).mono ?_
    rintro e w'' ⟨v, A'', rfl, hA'', hs', hK⟩
    simp only []
    rw [put_eq]
    exact hn _ _ _ hA'' (hs.trans hs') hK

def OpsA (P : Program) (ops : Array Oper) (K : Array Value → AHeap → Prop) : List Oper → Array Value → AHeap → Prop
  | [], t, A => K t A
  | o :: rest, t, A =>
    if Region.wanted o (yielded ops t) then opA P o t A (fun v A' => OpsA P ops K rest (putT t o.dst v) A')
    else OpsA P ops K rest (putT t o.dst undef) A

theorem OpsA_sound {P : Program} {ops : Array Oper} {K : Array Value → AHeap → Prop} {Q : Exit → Act → World → Prop} (l : List Oper) :
    ∀ {t : Array Value} {A : AHeap} {w : World}, HR A w → OpsA P ops K l t A →
      (∀ t' A' w', HR A' w' → Same A A' → K t' A' → Q .normal ⟨t', []⟩ w') → wpList P ops Q l ⟨t, []⟩ w := by
  induction l with
  | nil => intro t A w h hq hk; exact hk _ _ _ h (.refl _) hq
  | cons o rest ih =>
    intro t A w h hq hk
    unfold wpList
    simp only [OpsA] at hq
    split
    · rename_i hw
      rw [if_pos hw] at hq
      exact .inl (opA_sound h hq fun v A' w' hA hs hK => ih hA hK fun t' A'' w'' h1 h2 h3 => hk _ _ _ h1 (hs.trans h2) h3)
    · rename_i hw
      rw [if_neg hw] at hq
      rw [put_eq]
      exact ih h hq hk

def lift (A : AHeap) (Q : Exit → Array Value → AHeap → Prop) : Exit → Act → World → Prop :=
  fun e a w => a.defers = [] ∧ ∃ A', HR A' w ∧ Same A A' ∧ Q e a.tmps A'

def CodeA (P : Program) (c : Code) (t : Array Value) (A : AHeap) (Q : Exit → Array Value → AHeap → Prop) : Prop :=
  ∀ w, HR A w → c.wp P (lift A Q) ⟨t, []⟩ w

section rules
variable {P : Program} {t : Array Value} {A : AHeap} {Q : Exit → Array Value → AHeap → Prop}

theorem CodeA.mono {c : Code} {R : Exit → Array Value → AHeap → Prop} (h : CodeA P c t A Q) (hr : ∀ e t A', Q e t A' → R e t A') : CodeA P c t A R :=
  fun w hw => Go.wp_mono (h w hw) fun _ _ _ ⟨hd, A', hA, hs, hq⟩ => ⟨hd, A', hA, hs, hr _ _ _ hq⟩

theorem lift_trans {B : AHeap} (hs : Same A B) {e : Exit} {a : Act} {w : World} (h : lift B Q e a w) : lift A Q e a w :=
  ⟨h.1, let ⟨A', h1, h2, h3⟩ := h.2; ⟨A', h1, hs.trans h2, h3⟩⟩

theorem codeA_skip (h : Q .normal t A) : CodeA P .skip t A Q := fun w hw => wp_skip ⟨rfl, A, hw, .refl _, h⟩
theorem codeA_label {l : Nat} (h : Q .normal t A) : CodeA P (.label l) t A Q := fun w hw => wp_label ⟨rfl, A, hw, .refl _, h⟩
theorem codeA_exit {id : Nat} (h : Q (.exit id) t A) : CodeA P (.exit id) t A Q := fun w hw => wp_exit ⟨rfl, A, hw, .refl _, h⟩
theorem codeA_ret (h : Q .ret t A) : CodeA P .ret t A Q := fun w hw => wp_ret ⟨rfl, A, hw, .refl _, h⟩

def thenA (K : Array Value → AHeap → Prop) (Q : Exit → Array Value → AHeap → Prop) : Exit → Array Value → AHeap → Prop
  | .normal, t, A => K t A
  | e, t, A => Q e t A

theorem codeA_seq {x y : Code} (h : ∀ K : Array Value → AHeap → Prop, (∀ t A, CodeA P y t A Q → K t A) → CodeA P x t A (thenA K Q)) : CodeA P (.seq x y) t A Q :=
  fun w hw => wp_seq (Go.wp_mono (h _ (fun _ _ h => h) w hw) fun e a w' ⟨hd, A', hA, hs, hq⟩ => by
    cases e with
    | normal =>
      obtain ⟨tm, df⟩ := a
      simp only at hd; subst hd
      exact Go.wp_mono (hq w' hA) fun _ _ _ hl => lift_trans hs hl
    | _ => exact ⟨hd, A', hA, hs, hq⟩)

theorem codeA_cond {c : Operand} {x y : Code} {b : Bool} (hc : (Act.mk t []).eval c = .bool b) (ht : b = true → CodeA P x t A Q) (hf : b = false → CodeA P y t A Q) :
    CodeA P (.cond c x y) t A Q :=
  fun w hw => wp_cond_split hc (fun h => ht h w hw) (fun h => hf h w hw)

def inBlockA (id : Nat) (Q : Exit → Array Value → AHeap → Prop) : Exit → Array Value → AHeap → Prop
  | .exit id', t, A => if id' = id then Q .normal t A else Q (.exit id') t A
  | e, t, A => Q e t A

theorem codeA_block {id : Nat} {c : Code} (h : CodeA P c t A (inBlockA id Q)) : CodeA P (.block id c) t A Q :=
  fun w hw => wp_block (Go.wp_mono (h w hw) fun e a w' ⟨hd, A', hA, hs, hq⟩ => by
    cases e with
    | exit id' =>
      simp only [Exit.inBlock]
      simp only [inBlockA] at hq
      split
      · rename_i hid; rw [if_pos hid] at hq; exact ⟨hd, A', hA, hs, hq⟩
      · rename_i hid; rw [if_neg hid] at hq; exact ⟨hd, A', hA, hs, hq⟩
    | _ => exact ⟨hd, A', hA, hs, hq⟩)

theorem codeA_region {id : Nat} {l : List Oper} (h : OpsA P l.toArray (fun t' A' => Q .normal t' A') l t A) : CodeA P (.region id l.toArray false) t A Q :=
  fun w hw => wp_region_lit (OpsA_sound l hw h fun t' A' w' hA hs hK => ⟨rfl, A', hA, hs, hK⟩)

end rules

theorem wp_loop_ex {P : Program} {Q : Exit → Act → World → Prop} {c : Code} (I : Nat → Act → World → Prop) {n : Nat} {a : Act} {w : World} (h₀ : I n a w)
    (round : ∀ n a w, I n a w → c.wp P (Exit.then (fun a' w' => ∃ m, m < n ∧ I m a' w') Q) a w) : (Code.loop c).wp P Q a w := by
  intro b k cs
  have key : ∀ n a w, I n a w →
      ∃ e a' w', Q e a' w' ∧ Arrives P (lone (b.at a (.code c :: .inLoop c :: k)) cs w) b k cs e a' w' := by
    intro n
    induction n using Nat.strongRecOn with
    | _ n ih =>
      intro a w hI
      obtain ⟨e, a₁, w₁, hq, harr⟩ := round n a w hI b (.inLoop c :: k) cs
      cases e with
      | normal =>
        obtain ⟨m, hlt, hI₁⟩ := hq
        obtain ⟨e₂, a₂, w₂, hq₂, harr₂⟩ := ih m hlt a₁ w₁ hI₁
        exact ⟨e₂, a₂, w₂, hq₂, .of_steps (Steps.trans harr (.one step_inLoop)) harr₂⟩
      | exit id => exact ⟨_, a₁, w₁, hq, .pass (x := .inLoop c) rfl (fun _ _ => .inl (by simp)) harr⟩
      | goto l => exact ⟨_, a₁, w₁, hq, .pass (x := .inLoop c) rfl (fun _ _ => .inl (by simp)) harr⟩
      | ret => exact ⟨_, a₁, w₁, hq, .pass (x := .inLoop c) rfl (fun _ _ => .inl (by simp)) harr⟩
      | panic ch => exact ⟨_, a₁, w₁, hq, .pass (x := .inLoop c) rfl (fun _ _ => .inl (by simp)) harr⟩
      | outgrown => exact ⟨_, a₁, w₁, hq, .pass (x := .inLoop c) rfl (fun _ _ => .inl (by simp)) harr⟩
  obtain ⟨e, a', w', hq, harr⟩ := key _ a w h₀
  exact ⟨e, a', w', hq, .of_steps (.one step_loop) harr⟩

/-- a loop, by what holds at each round's head with a measure -/
theorem codeA_loop {P : Program} {t : Array Value} {A : AHeap} {Q : Exit → Array Value → AHeap → Prop} {c : Code}
    (I : Nat → Array Value → AHeap → Prop) (n : Nat) (h0 : I n t A)
    (round : ∀ n t' A', Same A A' → I n t' A' → CodeA P c t' A' (thenA (fun t'' A'' => ∃ m, m < n ∧ I m t'' A'') Q)) : CodeA P (.loop c) t A Q :=
  fun w hw => wp_loop_ex (fun n a w => a.defers = [] ∧ ∃ A', HR A' w ∧ Same A A' ∧ I n a.tmps A') (n := n) ⟨rfl, A, hw, .refl _, h0⟩
    fun n a w' ⟨hd, A', hA, hs, hI⟩ => by
      obtain ⟨tm, df⟩ := a
      simp only at hd; subst hd
      refine Go.wp_mono (round n tm A' hs hI w' hA) fun e a' w'' ⟨hd', A'', hA'', hs', hq⟩ => ?_
      cases e with
      | normal =>
        obtain ⟨m, hm, hI'⟩ := hq
        exact ⟨m, hm, hd', A'', hA'', hs.trans hs', hI'⟩
      | _ => exact ⟨hd', A'', hA'', hs.trans hs', hq⟩

/-- the results at a function's end -/
def ResA (P : Program) (fn : Func) (t : Array Value) (A : AHeap) (Q : Value → Prop) : Prop := ∃ v, SemR P (results fn t) A v ∧ Q v

theorem resA_tmp {P : Program} {fn : Func} {t : Array Value} {A : AHeap} {Q : Value → Prop} {x : Tmp} (h : fn.results = #[.tmp x]) (hq : Q (t.getD x undef)) : ResA P fn t A Q := by
  exact ⟨_, fun w _ => by simp [results, h], hq⟩
theorem resA_none {P : Program} {fn : Func} {t : Array Value} {A : AHeap} {Q : Value → Prop} (h : fn.results = #[]) (hq : Q (.tuple #[])) : ResA P fn t A Q := by
  exact ⟨_, fun w _ => by simp [results, h], hq⟩
theorem resA_tmp2 {P : Program} {fn : Func} {t : Array Value} {A : AHeap} {Q : Value → Prop} {x y : Tmp} (h : fn.results = #[.tmp x, .tmp y]) (hq : Q (.tuple #[t.getD x undef, t.getD y undef])) :
    ResA P fn t A Q := by
  exact ⟨_, fun w _ => by simp [results, h], hq⟩
theorem resA_tmp3 {P : Program} {fn : Func} {t : Array Value} {A : AHeap} {Q : Value → Prop} {x y z : Tmp} (h : fn.results = #[.tmp x, .tmp y, .tmp z])
    (hq : Q (.tuple #[t.getD x undef, t.getD y undef, t.getD z undef])) : ResA P fn t A Q := by
  exact ⟨_, fun w _ => by simp [results, h], hq⟩

/-- a call of a function with a body -/
def doneA (P : Program) (fn : Func) (Q : Value → AHeap → Prop) : Exit → Array Value → AHeap → Prop
  | .normal, t, A | .ret, t, A => ResA P fn t A (fun v => Q v A)
  | _, _, _ => False

theorem callA_body {P : Program} {f : FuncId} {fn : Func} {c : Code} {args : Array Value} {A : AHeap} {Q : Value → AHeap → Prop}
    (hf : P.funcs[f]? = some fn) (hb : fn.body = some c)
    (h : CodeA P c (args ++ Array.replicate (fn.ntmps - args.size) undef) A (doneA P fn Q)) : CallA P f args A Q := by
  intro w hw
  refine calls_of_wp hf hb (Go.wp_mono (h w hw) ?_)
  intro e a w' ⟨hd, A', hA, hs, hq⟩
  have key : ResA P fn a.tmps A' (fun v => Q v A') →
      a.defers = [] ∧ ∃ v, (results fn a.tmps).run P w' = .ok v w' ∧ ∃ v' A', Ending.returned v = .returned v' ∧ HR A' w' ∧ Same A A' ∧ Q v' A' := by
    intro hq
    obtain ⟨v, hr, hQ⟩ := hq
    exact ⟨hd, v, hr _ hA, v, _, rfl, hA, hs, hQ⟩
  cases e with
  | normal => exact key hq
  | ret => exact key hq
  | _ => exact hq.elim

end Go.Am

namespace Go.Am
open Go

def tstep (i : Nat) (acc : List Bool) (o : Oper) : List Bool :=
  acc ++ [acc.length == i || o.after.toList.any fun e => Region.binds .any e && acc.getD e.on false]

/-- which operations wait, directly or through others, for the operation i (or are it) -/
def taints (ops : List Oper) (i : Nat) : List Bool := ops.foldl (tstep i) []

theorem foldl_tstep (i : Nat) (ops : List Oper) : ∀ acc : List Bool, ∃ r, ops.foldl (tstep i) acc = acc ++ r ∧ r.length = ops.length := by
  induction ops with
  | nil => intro acc; exact ⟨[], by simp, rfl⟩
  | cons o l ih =>
    intro acc
    obtain ⟨r, h1, h2⟩ := ih (tstep i acc o)
    refine ⟨(acc.length == i || o.after.toList.any fun e => Region.binds .any e && acc.getD e.on false) :: r, ?_, by simp [h2]⟩
    rw [List.foldl_cons, h1]; simp only [tstep, List.append_assoc, List.singleton_append]

theorem taints_step (i : Nat) : ∀ (ops : List Oper) (acc : List Bool) (j : Nat) (o : Oper), ops[j]? = some o →
    (ops.foldl (tstep i) acc).getD (acc.length + j) false = true →
    acc.length + j = i ∨ ∃ e ∈ o.after, Region.binds .any e = true ∧ e.on < acc.length + j ∧ (ops.foldl (tstep i) acc).getD e.on false = true := by
  intro ops
  induction ops with
  | nil => intro acc j o h; simp at h
  | cons x l ih =>
    intro acc j o h ht
    have hlen : (tstep i acc x).length = acc.length + 1 := by simp [tstep]
    cases j with
    | zero =>
      simp only [List.getElem?_cons_zero, Option.some.injEq] at h
      subst h
      obtain ⟨r, h1, _⟩ := foldl_tstep i l (tstep i acc x)
      have hg : ((x :: l).foldl (tstep i) acc).getD acc.length false = (acc.length == i || x.after.toList.any fun e => Region.binds .any e && acc.getD e.on false) := by
        rw [List.foldl_cons, h1]; simp only [tstep, List.append_assoc]
        simp [List.getD_eq_getElem?_getD]
      rw [Nat.add_zero, hg] at ht
      simp only [Bool.or_eq_true, beq_iff_eq, List.any_eq_true, Bool.and_eq_true] at ht
      rcases ht with ht | ⟨e, he, hb, ha⟩
      · exact .inl ht
      · refine .inr ⟨e, by simpa using he, hb, ?_, ?_⟩
        · rcases Nat.lt_or_ge e.on acc.length with hl | hl
          · exact hl
          · rw [List.getD_eq_getElem?_getD, List.getElem?_eq_none hl] at ha; simp at ha
        · obtain ⟨r', h1', _⟩ := foldl_tstep i (x :: l) acc
          have hlt : e.on < acc.length := by
            rcases Nat.lt_or_ge e.on acc.length with hl | hl
            · exact hl
            · rw [List.getD_eq_getElem?_getD, List.getElem?_eq_none hl] at ha; simp at ha
          rw [h1', List.getD_eq_getElem?_getD, List.getElem?_append_left hlt, ← List.getD_eq_getElem?_getD]; exact ha
    | succ j =>
      simp only [List.getElem?_cons_succ] at h
      have := ih (tstep i acc x) j o h (by
        rw [hlen]
        simpa [List.foldl_cons, Nat.add_assoc, Nat.add_comm 1 j] using ht)
      rw [hlen] at this
      rcases this with h1 | ⟨e, he, hb, hlt, hg⟩
      · exact .inl (by omega)
      · exact .inr ⟨e, he, hb, by omega, by simpa [List.foldl_cons] using hg⟩

theorem taints_spec {ops : List Oper} {i j : Nat} {o : Oper} (h : ops[j]? = some o) (ht : (taints ops i).getD j false = true) :
    j = i ∨ ∃ e ∈ o.after, Region.binds .any e = true ∧ e.on < j ∧ (taints ops i).getD e.on false = true := by
  have := taints_step i ops [] j o h (by simpa [taints] using ht)
  simpa [taints] using this

def Closed (ops : List Oper) (listed : Array Bool) : Prop :=
  ∀ (j : Nat) (o : Oper), ops[j]? = some o → listed.getD j false = true → ∀ e ∈ o.after, Region.binds .any e = true → listed.getD e.on false = true

theorem untainted {ops : List Oper} {listed : Array Bool} {i : Nat} (hc : Closed ops listed) (hi : listed.getD i false = false) :
    ∀ j o, ops[j]? = some o → listed.getD j false = true → (taints ops i).getD j false = false := by
  intro j
  induction j using Nat.strongRecOn with
  | _ j ih =>
    intro o ho hl
    cases ht : (taints ops i).getD j false with
    | false => rfl
    | true =>
      rcases taints_spec ho ht with rfl | ⟨e, he, hb, hlt, hg⟩
      · rw [hi] at hl; cases hl
      · have hle := hc j o ho hl e he hb
        have hlen : e.on < ops.length := by
          have := (List.getElem?_eq_some_iff.1 ho).1
          omega
        rw [ih e.on hlt _ (List.getElem?_eq_getElem hlen) hle] at hg
        cases hg

theorem mem_ready' {ops : List Oper} {listed : Array Bool} {k : Nat} (h : k ∈ Region.ready .any ops.toArray listed) :
    ∃ o, ops[k]? = some o ∧ listed.getD k true = false ∧ ∀ e ∈ o.after, Region.binds .any e = true → listed.getD e.on false = true := by
  simp only [Region.ready, List.mem_filter, List.mem_range, Bool.and_eq_true, Bool.not_eq_true'] at h
  obtain ⟨hk, hl, ha⟩ := h
  have hk' : k < ops.length := by simpa using hk
  refine ⟨ops[k], List.getElem?_eq_getElem hk', hl, ?_⟩
  have hk2 : ops.toArray[k]? = some ops[k] := by simp [hk']
  rw [hk2] at ha
  simp only [Option.map_some, Option.getD_some, Array.all_eq_true', Bool.or_eq_true, Bool.not_eq_true'] at ha
  intro e he hb
  rcases ha e he with h | h
  · rw [hb] at h; cases h
  · exact h

theorem ready_untainted {ops : List Oper} {listed : Array Bool} {i k : Nat} (hc : Closed ops listed) (hi : listed.getD i false = false) (hk : k ∈ Region.ready .any ops.toArray listed) (hne : k ≠ i) :
    (taints ops i).getD k false = false := by
  obtain ⟨o, ho, _, ha⟩ := mem_ready' hk
  cases ht : (taints ops i).getD k false with
  | false => rfl
  | true =>
    rcases taints_spec ho ht with rfl | ⟨e, he, hb, hlt, hg⟩
    · exact absurd rfl hne
    · have hle := ha e he hb
      have hlen : e.on < ops.length := by
        have := (List.getElem?_eq_some_iff.1 ho).1
        omega
      rw [untainted hc hi e.on _ (List.getElem?_eq_getElem hlen) hle] at hg
      cases hg

theorem getD_set_self {listed : Array Bool} {k : Nat} (h : k < listed.size) (d : Bool) : (listed.setIfInBounds k true).getD k d = true := by
  simp [h]
theorem getD_set_ne' {listed : Array Bool} {k j : Nat} (h : j ≠ k) (d : Bool) : (listed.setIfInBounds k true).getD j d = listed.getD j d := by
  simp only [Array.getD_eq_getD_getElem?]
  rw [Array.getElem?_setIfInBounds_ne (Ne.symm h)]

theorem Closed.set {ops : List Oper} {listed : Array Bool} {k : Nat} (hs : listed.size = ops.length) (hc : Closed ops listed) (hk : k ∈ Region.ready .any ops.toArray listed) :
    Closed ops (listed.setIfInBounds k true) := by
  obtain ⟨ok, hok, _, ha⟩ := mem_ready' hk
  have hmono : ∀ j, listed.getD j false = true → (listed.setIfInBounds k true).getD j false = true := fun j hj => by
    by_cases hjk : j = k
    · subst hjk
      have : j < listed.size := by rw [hs]; exact (List.getElem?_eq_some_iff.1 hok).1
      exact getD_set_self this _
    · rw [getD_set_ne' hjk]; exact hj
  intro j o ho hl e he hb
  by_cases hjk : j = k
  · subst hjk
    obtain rfl : ok = o := Option.some.inj (hok.symm.trans ho)
    exact hmono _ (ha e he hb)
  · rw [getD_set_ne' hjk] at hl
    exact hmono _ (hc j o ho hl e he hb)

/-- what has been read ahead: the operation, its program, what it yields -/
abbrev Ahead := Nat × Sem Next × Value

def Holds (P : Program) (w : World) (x : Ahead) : Prop := x.2.1.run P w = .ok (.value x.2.2) w

def dropT (ops : List Oper) (k : Nat) (act : List Ahead) : List Ahead := act.filter fun x => !(taints ops x.1).getD k false

def wpAnyH (P : Program) (ops : List Oper) (Q : Exit → Act → World → Prop) : Nat → Array Bool → List Ahead → Act → World → Prop
  | 0, listed, _, a, w => Region.ready .any ops.toArray listed = [] ∧ Q .normal a w
  | n + 1, listed, act, a, w =>
    (Region.ready .any ops.toArray listed = [] → Q .normal a w) ∧
    ∀ k ∈ Region.ready .any ops.toArray listed, wpOp P ops.toArray Q k (fun a' w' => (∀ x ∈ dropT ops k act, Holds P w' x) ∧
      wpAnyH P ops Q n (listed.setIfInBounds k true) (dropT ops k act) a' w') a w

theorem wpAny_of_H {P : Program} {ops : List Oper} {Q : Exit → Act → World → Prop} : ∀ (n : Nat) (listed : Array Bool) (act : List Ahead) (a : Act) (w : World),
    wpAnyH P ops Q n listed act a w → wpAny P .any ops.toArray Q n listed a w := by
  intro n
  induction n with
  | zero => intro listed act a w h; exact h
  | succ n ih => intro listed act a w h; exact ⟨h.1, fun k hk => wpOp_mono (fun a w hh => ih _ _ a w hh.2) (h.2 k hk)⟩

theorem wpAnyH_sub {P : Program} {ops : List Oper} {Q : Exit → Act → World → Prop} : ∀ (n : Nat) (listed : Array Bool) (act act' : List Ahead) (a : Act) (w : World),
    (∀ x ∈ act', x ∈ act) → wpAnyH P ops Q n listed act a w → wpAnyH P ops Q n listed act' a w := by
  intro n
  induction n with
  | zero => intro listed act act' a w _ h; exact h
  | succ n ih =>
    intro listed act act' a w hs h
    have hd : ∀ k, ∀ x ∈ dropT ops k act', x ∈ dropT ops k act := fun k x hx => by
      simp only [dropT, List.mem_filter] at hx ⊢
      exact ⟨hs x hx.1, hx.2⟩
    exact ⟨h.1, fun k hk => wpOp_mono (fun a w hh => ⟨fun y hy => hh.1 y (hd k y hy), ih _ _ _ a w (hd k) hh.2⟩) (h.2 k hk)⟩

theorem wpOp_put' {P : Program} {ops : Array Oper} {Q : Exit → Act → World → Prop} {j : Nat} {oi oj : Oper} {v : Value} (hj : ops[j]? = some oj) (hap : oi.apart ops oj = true)
    (hsi : ∀ cs b, oi.op ≠ .select cs b) (hsj : ∀ cs b, oj.op ≠ .select cs b)
    (hQ : ∀ c a w, Q (.panic c) (a.put oi.dst v) w → Q (.panic c) a w) {K : Act → World → Prop} {a : Act} {w : World} {s : Sem Next} {b : Bool}
    (h1s : execOp a.eval oi = s) (h1b : Region.wanted oi (yielded ops a.tmps) = b)
    (h : wpOp P ops Q j K (a.put oi.dst v) w) :
    wpOp P ops Q j (fun a' w' => (execOp a'.eval oi = s ∧ Region.wanted oi (yielded ops a'.tmps) = b) ∧ K (a'.put oi.dst v) w') a w := by
  obtain ⟨h1, h2, h3⟩ := Oper.apart_spec hap
  have keep : ∀ u, execOp (a.put oj.dst u).eval oi = s ∧ Region.wanted oi (yielded ops (a.put oj.dst u).tmps) = b := fun u =>
    ⟨(execOp_put oi hsi a oj.dst u h3).trans h1s, (wanted_put oi a oj.dst u h3).trans h1b⟩
  unfold wpOp at *
  simp only [hj] at *
  rw [wanted_put oj a oi.dst v h1] at h
  split
  · rename_i hw
    simp only [hw, if_true] at h
    rcases h with h | ⟨hasks, hlets⟩
    case inr => exact .inr ⟨by unfold Oper.asks at *; rw [execOp_put oj hsj a oi.dst v h1] at hasks; exact hasks, hlets⟩
    refine .inl ?_
    unfold Oper.wp at *
    rw [execOp_put oj hsj a oi.dst v h1] at h
    generalize (execOp a.eval oj).run P w = r at *
    cases r with
    | ok n w' =>
      cases n <;> simp only [Oper.upon] at h ⊢
      case value u => exact ⟨keep u, by rw [← Act.put_comm a v u h2]; exact h⟩
      case skip => exact ⟨keep _, by rw [← Act.put_comm a v undef h2]; exact h⟩
      case defer d =>
        have hk : ∀ u, execOp (({ a with defers := d :: a.defers } : Act).put oj.dst u).eval oi = s ∧ Region.wanted oi (yielded ops (({ a with defers := d :: a.defers } : Act).put oj.dst u).tmps) = b := fun u =>
          ⟨(execOp_put oi hsi _ oj.dst u h3).trans h1s, (wanted_put oi _ oj.dst u h3).trans h1b⟩
        refine ⟨hk _, ?_⟩
        rw [← Act.put_comm _ v undef h2, ← Act.put_defers]
        exact h
      case enter f args =>
        refine Calls.mono h fun e w'' he => ?_
        cases e with
        | returned u => exact ⟨keep u, by rw [← Act.put_comm a v u h2]; exact he⟩
        | panicked c => exact hQ _ _ _ he
        | outgrown => exact he
      case row row args =>
        exact Rows.mono h fun u w'' he => ⟨keep u, by rw [← Act.put_comm a v u h2]; exact he⟩
    | halt x w' =>
      cases x <;> simp only [Oper.upon] at h ⊢
      exact hQ _ _ _ h
  · rename_i hw
    simp only [hw] at h
    exact ⟨keep _, by rw [← Act.put_comm a v undef h2]; exact h⟩

/-- may the operation i be moved ahead of all that is not listed and does not wait for it? -/
def apartB (ops : List Oper) (listed : Array Bool) (i : Nat) (oi : Oper) : Bool :=
  (List.range ops.length).all fun k => k == i || listed.getD k true || (taints ops i).getD k false || ((ops[k]?).map fun ok => oi.apart ops.toArray ok).getD true

def noSelectB (ops : List Oper) : Bool := ops.all fun o => match o.op with | .select .. => false | _ => true

theorem noSelect_spec {ops : List Oper} (h : noSelectB ops = true) {k : Nat} {o : Oper} (ho : ops[k]? = some o) : ∀ cs b, o.op ≠ .select cs b := by
  intro cs b he
  have := List.all_eq_true.1 h o (List.mem_of_getElem? ho)
  rw [he] at this
  cases this

theorem ready_set {ops : List Oper} {listed : Array Bool} {i k : Nat} (hs : listed.size = ops.length) (hk : k ∈ Region.ready .any ops.toArray listed) (hne : k ≠ i) : k ∈ Region.ready .any ops.toArray (listed.setIfInBounds i true) := by
  simp only [Region.ready, List.mem_filter, List.mem_range, Bool.and_eq_true, Bool.not_eq_true'] at hk ⊢
  obtain ⟨h1, h2, h3⟩ := hk
  refine ⟨h1, by rw [getD_set_ne' hne]; exact h2, ?_⟩
  have hk' : k < ops.length := by simpa using h1
  have hk2 : ops.toArray[k]? = some ops[k] := by simp [hk']
  rw [hk2] at h3 ⊢
  simp only [Option.map_some, Option.getD_some, Array.all_eq_true', Bool.or_eq_true, Bool.not_eq_true'] at h3 ⊢
  intro e he
  rcases h3 e he with h | h
  · exact .inl h
  · refine .inr ?_
    by_cases hei : e.on = i
    · rw [hei] at h ⊢
      have hi : i < listed.size := by
        rcases Nat.lt_or_ge i listed.size with hl | hl
        · exact hl
        · rw [Array.getD_eq_getD_getElem?, Array.getElem?_eq_none hl] at h; simp at h
      exact getD_set_self hi _
    · rw [getD_set_ne' hei]; exact h

theorem set_comm' (l : Array Bool) (i k : Nat) : (l.setIfInBounds i true).setIfInBounds k true = (l.setIfInBounds k true).setIfInBounds i true := by
  by_cases h : i = k
  · subst h; rfl
  · exact Array.setIfInBounds_comm _ _ h

theorem getD_false_of_true {listed : Array Bool} {i : Nat} (h : listed.getD i true = false) : listed.getD i false = false := by
  simp only [Array.getD_eq_getD_getElem?] at h ⊢
  cases hl : listed[i]? with
  | none => rfl
  | some b => rw [hl] at h; simpa using h

/-- an operation that only reads, moved first -/
theorem anyH_first {P : Program} {ops : List Oper} {Q : Exit → Act → World → Prop} {i : Nat} {oi : Oper} {v : Value} {s : Sem Next} {wb : Bool} (hoi : ops[i]? = some oi) (hns : noSelectB ops = true)
    (hQ : ∀ c a w, ¬ Q (.panic c) a w) : ∀ (n : Nat) (listed : Array Bool) (act : List Ahead) (a : Act) (w : World), listed.size = ops.length → Closed ops listed →
    i ∈ Region.ready .any ops.toArray listed → apartB ops listed i oi = true → execOp a.eval oi = s → Region.wanted oi (yielded ops.toArray a.tmps) = wb →
    (wb = true → Holds P w (i, s, v)) → (wb = false → v = undef) → (∀ x ∈ act, Holds P w x) →
    wpAnyH P ops Q n (listed.setIfInBounds i true) (if wb then (i, s, v) :: act else act) (a.put oi.dst v) w → wpAnyH P ops Q (n + 1) listed act a w := by
  intro n
  induction n with
  | zero =>
    intro listed act a w hsz hcl hi hap hes hwb hv hu hact hH
    have hin := hi
    refine ⟨fun h => (by rw [h] at hi; cases hi), fun k hk => ?_⟩
    by_cases hki : k = i
    · subst hki
      have hoa : ops.toArray[k]? = some oi := by simpa using hoi
      unfold wpOp
      simp only [hoa]
      have fin : (∀ x ∈ dropT ops k act, Holds P w x) ∧ wpAnyH P ops Q 0 (listed.setIfInBounds k true) (dropT ops k act) (a.put oi.dst v) w :=
        ⟨fun x hx => hact x ((List.mem_filter.1 hx).1), hH⟩
      cases wb with
      | true => rw [hwb, if_pos rfl]; refine .inl ?_; unfold Oper.wp; rw [hes, hv rfl]; exact fin
      | false => rw [hwb, if_neg (by simp)]; rw [← hu rfl]; exact fin
    · have := ready_set hsz hk hki
      rw [hH.1] at this; cases this
  | succ n ih =>
    intro listed act a w hsz hcl hi hap hes hwb hv hu hact hH
    obtain ⟨_, hoi', hli, _⟩ := mem_ready' hi
    have hif : listed.getD i false = false := getD_false_of_true hli
    refine ⟨fun h => (by rw [h] at hi; cases hi), fun k hk => ?_⟩
    by_cases hki : k = i
    · subst hki
      have hoa : ops.toArray[k]? = some oi := by simpa using hoi
      unfold wpOp
      simp only [hoa]
      have fin : (∀ x ∈ dropT ops k act, Holds P w x) ∧ wpAnyH P ops Q (n + 1) (listed.setIfInBounds k true) (dropT ops k act) (a.put oi.dst v) w := by
        refine ⟨fun x hx => hact x ((List.mem_filter.1 hx).1), wpAnyH_sub _ _ _ _ _ _ (fun x hx => ?_) hH⟩
        have := (List.mem_filter.1 hx).1
        cases wb <;> simp [this]
      cases wb with
      | true => rw [hwb, if_pos rfl]; refine .inl ?_; unfold Oper.wp; rw [hes, hv rfl]; exact fin
      | false => rw [hwb, if_neg (by simp)]; rw [← hu rfl]; exact fin
    · have hk' := ready_set hsz hk hki
      obtain ⟨ok, hok, hlk, _⟩ := mem_ready' hk
      have hoka : ops.toArray[k]? = some ok := by simpa using hok
      have htk := ready_untainted hcl hif hk hki
      have hapk : oi.apart ops.toArray ok = true := by
        have := List.all_eq_true.1 hap k (by simpa using (List.getElem?_eq_some_iff.1 hok).1)
        simp only [hok, Option.map_some, Option.getD_some, hlk, htk, Bool.or_false, Bool.or_eq_true, beq_iff_eq] at this
        exact this.resolve_left hki
      have hh := wpOp_put' hoka hapk (noSelect_spec hns hoi) (noSelect_spec hns hok) (fun c a w h => absurd h (hQ c _ w)) hes hwb (hH.2 k hk')
      refine wpOp_mono (fun a' w' hx => ?_) hh
      obtain ⟨⟨hes', hwb'⟩, hx1, hx2⟩ := hx
      have hdrop : dropT ops k (if wb then (i, s, v) :: act else act) = if wb then (i, s, v) :: dropT ops k act else dropT ops k act := by
        cases wb with
        | true => simp only [if_true, dropT, List.filter_cons, htk, Bool.not_false]
        | false => rfl
      rw [hdrop] at hx1 hx2
      have hact' : ∀ x ∈ dropT ops k act, Holds P w' x := fun x hx => hx1 x (by cases wb <;> simp [hx])
      refine ⟨hact', ih _ _ _ _ (by simpa using hsz) (hcl.set hsz hk) ?_ ?_ hes' hwb' ?_ hu hact' ?_⟩
      · exact ready_set hsz hi (Ne.symm hki)
      · refine List.all_eq_true.2 fun j hj => ?_
        have := List.all_eq_true.1 hap j hj
        by_cases hjk : j = k
        · subst hjk
          have : j < listed.size := by rw [hsz]; exact (List.getElem?_eq_some_iff.1 hok).1
          simp [getD_set_self this]
        · rw [getD_set_ne' hjk]; exact this
      · intro hwt; subst hwt; exact hx1 _ (by simp)
      · rw [set_comm']; exact hx2

def HoldsA (P : Program) (A : AHeap) (x : Ahead) : Prop := SemR P x.2.1 A (.value x.2.2)

theorem HoldsA.holds {P : Program} {A : AHeap} {w : World} {x : Ahead} (hw : HR A w) (h : HoldsA P A x) : Holds P w x := h w hw

/-- a region's operations in the order π; those marked only read -/
def CanonA (P : Program) (ops : List Oper) (Q : Array Value → AHeap → Prop) : List (Nat × Bool) → List Ahead → Array Value → AHeap → Prop
  | [], _, t, A => Q t A
  | (i, true) :: π, act, t, A => match ops[i]? with
    | none => False
    | some o => if Region.wanted o (yielded ops.toArray t) then
        ∃ v, SemR P (execOp (Act.eval ⟨t, []⟩) o) A (.value v) ∧ CanonA P ops Q π ((i, execOp (Act.eval ⟨t, []⟩) o, v) :: act) (putT t o.dst v) A
      else CanonA P ops Q π act (putT t o.dst undef) A
  | (k, false) :: π, act, t, A => match ops[k]? with
    | none => False
    | some o => if Region.wanted o (yielded ops.toArray t) then
        opA P o t A (fun v A' => (∀ x ∈ dropT ops k act, HoldsA P A' x) ∧ CanonA P ops Q π (dropT ops k act) (putT t o.dst v) A')
      else CanonA P ops Q π (dropT ops k act) (putT t o.dst undef) A

def canonB (ops : List Oper) : List (Nat × Bool) → Array Bool → Bool
  | [], listed => (Region.ready .any ops.toArray listed).isEmpty
  | (i, true) :: π, listed => (Region.ready .any ops.toArray listed).contains i && ((ops[i]?).map (apartB ops listed i)).getD false && canonB ops π (listed.setIfInBounds i true)
  | (k, false) :: π, listed => Region.ready .any ops.toArray listed == [k] && canonB ops π (listed.setIfInBounds k true)

def canonTop (ops : List Oper) (π : List (Nat × Bool)) : Bool := π.length == ops.length && noSelectB ops && canonB ops π (Array.replicate ops.length false)

theorem canon_sound {P : Program} {ops : List Oper} {Q : Array Value → AHeap → Prop} {R : Exit → Act → World → Prop} (hns : noSelectB ops = true) (hR : ∀ c a w, ¬ R (.panic c) a w) :
    ∀ (π : List (Nat × Bool)) (listed : Array Bool) (act : List Ahead) (t : Array Value) (A : AHeap) (w : World), listed.size = ops.length → Closed ops listed →
    canonB ops π listed = true → HR A w → (∀ x ∈ act, Holds P w x) → CanonA P ops Q π act t A →
    (∀ t' A' w', HR A' w' → Same A A' → Q t' A' → R .normal ⟨t', []⟩ w') → wpAnyH P ops R π.length listed act ⟨t, []⟩ w := by
  intro π
  induction π with
  | nil =>
    intro listed act t A w hsz hcl hB hw hact hC hk
    simp only [canonB, List.isEmpty_iff] at hB
    exact ⟨hB, hk _ _ _ hw (.refl _) hC⟩
  | cons x π ih =>
    intro listed act t A w hsz hcl hB hw hact hC hk
    obtain ⟨i, q⟩ := x
    cases q with
    | true =>
      simp only [canonB, Bool.and_eq_true, List.contains_iff_mem] at hB
      obtain ⟨⟨hi, hap⟩, hB⟩ := hB
      simp only [CanonA] at hC
      obtain ⟨o, ho, _, _⟩ := mem_ready' hi
      rw [ho] at hC hap
      simp only [Option.map_some, Option.getD_some] at hap hC
      by_cases hwd : Region.wanted o (yielded ops.toArray t) = true
      · rw [if_pos hwd] at hC
        obtain ⟨v, hr, hn⟩ := hC
        have hr := hr w hw
        refine anyH_first (v := v) (s := execOp (Act.eval ⟨t, []⟩) o) (wb := true) ho hns hR _ _ _ _ _ hsz hcl hi hap rfl hwd (fun _ => hr) (by simp) hact ?_
        rw [put_eq]
        exact ih _ _ _ _ _ (by simpa using hsz) (hcl.set hsz hi) hB hw (fun x hx => by
          rcases List.mem_cons.1 hx with rfl | hx
          · exact hr
          · exact hact x hx) hn hk
      · rw [if_neg hwd] at hC
        refine anyH_first (v := undef) (s := execOp (Act.eval ⟨t, []⟩) o) (wb := false) ho hns hR _ _ _ _ _ hsz hcl hi hap rfl (by simpa using hwd) (by simp) (fun _ => rfl) hact ?_
        rw [put_eq]
        exact ih _ _ _ _ _ (by simpa using hsz) (hcl.set hsz hi) hB hw hact hC hk
    | false =>
      simp only [canonB, Bool.and_eq_true, beq_iff_eq] at hB
      obtain ⟨hrd, hB⟩ := hB
      have hi : i ∈ Region.ready .any ops.toArray listed := by rw [hrd]; simp
      obtain ⟨o, ho, _, _⟩ := mem_ready' hi
      simp only [CanonA] at hC
      rw [ho] at hC
      simp only at hC
      refine ⟨fun h => (by rw [h] at hrd; cases hrd), fun k hk' => ?_⟩
      obtain rfl : k = i := by rw [hrd] at hk'; simpa using hk'
      have hoa : ops.toArray[k]? = some o := by simpa using ho
      unfold wpOp
      simp only [hoa]
      by_cases hwd : Region.wanted o (yielded ops.toArray t) = true
      · rw [if_pos hwd] at hC ⊢
        refine .inl (opA_sound hw hC fun v A' w' hA hs hK => ?_)
        exact ⟨fun x hx => (hK.1 x hx).holds hA, ih _ _ _ _ _ (by simpa using hsz) (hcl.set hsz hi) hB hA (fun x hx => (hK.1 x hx).holds hA) hK.2
          fun t' A'' w'' h1 h2 h3 => hk _ _ _ h1 (hs.trans h2) h3⟩
      · rw [if_neg hwd] at hC ⊢
        rw [put_eq]
        have hact' : ∀ x ∈ dropT ops k act, Holds P w x := fun x hx => hact x ((List.mem_filter.1 hx).1)
        exact ⟨hact', ih _ _ _ _ _ (by simpa using hsz) (hcl.set hsz hi) hB hw hact' hC hk⟩

theorem codeA_region_draw {P : Program} {t : Array Value} {A : AHeap} {Q : Exit → Array Value → AHeap → Prop} {id : Nat} {l : List Oper} (π : List (Nat × Bool))
    (hm : P.follows .mixedOrders = true) (hB : canonTop l π = true) (h : CanonA P l (fun t' A' => Q .normal t' A') π [] t A) : CodeA P (.region id l.toArray true) t A Q := by
  intro w hw
  simp only [canonTop, Bool.and_eq_true, beq_iff_eq] at hB
  obtain ⟨⟨hlen, hns⟩, hB⟩ := hB
  let R : Exit → Act → World → Prop := fun e a w => match e with
    | .normal => lift A Q .normal a w
    | _ => False
  have H := canon_sound (P := P) (R := R) (Q := fun t' A' => Q .normal t' A') hns (fun c a w h => h) π (Array.replicate l.length false) [] t A _ (by simp)
    (fun j o _ hl => by
      rw [Array.getD_eq_getD_getElem?] at hl
      rcases Nat.lt_or_ge j l.length with hj | hj
      · simp [hj] at hl
      · rw [Array.getElem?_eq_none (by simpa using hj)] at hl; simp at hl) hB hw.drew (by simp) h
    (fun t' A' w' h1 h2 h3 => ⟨rfl, A', h1, h2, h3⟩)
  rw [hlen] at H
  refine Go.wp_mono (wp_region_any (Q := R) hm (by simpa using wpAny_of_H _ _ _ _ _ H)) fun e a w hr => ?_
  cases e <;> first | exact hr | exact hr.elim

end Go.Am

namespace Go.Am
open Go

abbrev Heap := List (Nat × AObj)
abbrev Fr := List (Nat × Value)

def keys (H : Heap) : List Nat := H.map (·.1)

def SL (A : AHeap) (H : Heap) : Prop := (keys H).Nodup ∧ ∀ x ∈ H, A.get x.1 = x.2 ∧ x.1 < A.next

def KF (A : AHeap) (H : Heap) (B : AHeap) (G : Heap) : Prop :=
  Same A B ∧ A.next ≤ B.next ∧ (∀ b ∈ keys G, b ∈ keys H ∨ A.next ≤ b) ∧ ∀ b, b < A.next → b ∉ keys H → B.get b = A.get b

theorem KF.refl (A : AHeap) (H : Heap) : KF A H A H := ⟨.refl A, Nat.le_refl _, fun _ h => .inl h, fun _ _ _ => rfl⟩
theorem KF.trans {A B C : AHeap} {H G I : Heap} (h : KF A H B G) (k : KF B G C I) : KF A H C I := by
  obtain ⟨h1, h2, h3, h4⟩ := h
  obtain ⟨k1, k2, k3, k4⟩ := k
  refine ⟨h1.trans k1, Nat.le_trans h2 k2, fun b hb => ?_, fun b hb hn => ?_⟩
  · rcases k3 b hb with hb | hb
    · exact h3 b hb
    · exact .inr (Nat.le_trans h2 hb)
  · rw [k4 b (Nat.lt_of_lt_of_le hb h2) (fun hg => by
      rcases h3 b hg with hx | hx
      · exact hn hx
      · omega)]
    exact h4 b hb hn

def TR (F : Fr) (t : Array Value) : Prop := ∀ i v, (i, v) ∈ F → t[i]? = some v

def fget : Fr → Nat → Option Value
  | [], _ => none
  | (j, v) :: F, i => bif Nat.beq j i then some v else fget F i

def fdel : Fr → Nat → Fr
  | [], _ => []
  | (j, v) :: F, i => bif Nat.beq j i then fdel F i else (j, v) :: fdel F i

def fput (F : Fr) (d : Option Tmp) (v : Value) : Fr :=
  match d with
  | some d => (d, v) :: fdel F d
  | none => F

def fkeep : Fr → List Nat → Fr
  | [], _ => []
  | (j, v) :: F, l => bif l.any (Nat.beq j) then (j, v) :: fkeep F l else fkeep F l

theorem fget_mem {F : Fr} {i : Nat} {v : Value} (h : fget F i = some v) : (i, v) ∈ F := by
  induction F with
  | nil => simp [fget] at h
  | cons x F ih =>
    obtain ⟨j, u⟩ := x
    simp only [fget] at h
    cases hb : Nat.beq j i with
    | true =>
      rw [hb] at h
      simp only [cond_true, Option.some.injEq] at h
      have : j = i := by simpa using Nat.eq_of_beq_eq_true hb
      subst this; subst h; simp
    | false => rw [hb] at h; exact List.mem_cons_of_mem _ (ih h)

theorem fdel_mem {F : Fr} {d i : Nat} {v : Value} (h : (i, v) ∈ fdel F d) : (i, v) ∈ F ∧ i ≠ d := by
  induction F with
  | nil => simp [fdel] at h
  | cons x F ih =>
    obtain ⟨j, u⟩ := x
    simp only [fdel] at h
    cases hb : Nat.beq j d with
    | true => rw [hb] at h; exact ⟨List.mem_cons_of_mem _ (ih h).1, (ih h).2⟩
    | false =>
      rw [hb] at h
      rcases List.mem_cons.1 h with h | h
      · obtain ⟨rfl, rfl⟩ := Prod.mk.injEq .. ▸ h
        exact ⟨List.mem_cons_self, fun e => by subst e; simp at hb⟩
      · exact ⟨List.mem_cons_of_mem _ (ih h).1, (ih h).2⟩

theorem fkeep_mem {F : Fr} {l : List Nat} {i : Nat} {v : Value} (h : (i, v) ∈ fkeep F l) : (i, v) ∈ F := by
  induction F with
  | nil => simp [fkeep] at h
  | cons x F ih =>
    obtain ⟨j, u⟩ := x
    simp only [fkeep] at h
    cases hb : l.any (Nat.beq j) with
    | true =>
      rw [hb] at h
      rcases List.mem_cons.1 h with h | h
      · rw [h]; exact List.mem_cons_self
      · exact List.mem_cons_of_mem _ (ih h)
    | false => rw [hb] at h; exact List.mem_cons_of_mem _ (ih h)

theorem TR.keep {F : Fr} {t : Array Value} (h : TR F t) (l : List Nat) : TR (fkeep F l) t := fun _ _ hm => h _ _ (fkeep_mem hm)

def dstOk (N : Nat) : Option Tmp → Bool
  | some d => Nat.blt d N
  | none => true

theorem TR.put {F : Fr} {t : Array Value} {N : Nat} (h : TR F t) (hs : t.size = N) {d : Option Tmp} (hd : dstOk N d = true) (v : Value) : TR (fput F d v) (putT t d v) := by
  cases d with
  | none => exact h
  | some d =>
    have hlt : d < t.size := by
      rw [hs]; simpa [dstOk, Nat.blt_eq] using hd
    intro i u hm
    simp only [fput] at hm
    simp only [putT]
    rcases List.mem_cons.1 hm with hm | hm
    · simp only [Prod.mk.injEq] at hm
      obtain ⟨rfl, rfl⟩ := hm
      exact Array.getElem?_setIfInBounds_self_of_lt hlt
    · obtain ⟨h1, h2⟩ := fdel_mem hm
      rw [Array.getElem?_setIfInBounds_ne (Ne.symm h2)]
      exact h _ _ h1

theorem size_putT (t : Array Value) (d : Option Tmp) (v : Value) : (putT t d v).size = t.size := by
  cases d <;> simp [putT]

def opv (F : Fr) : Operand → Option Value
  | .tmp t => fget F t
  | .const v => some v
  | .global g => some (.pointer (some ⟨g, 0, none⟩))
  | .func f => some (.func (.func f) #[] #[])

theorem opv_eval {F : Fr} {t : Array Value} {x : Operand} {v : Value} (h : TR F t) (hx : opv F x = some v) : (Act.mk t []).eval x = v := by
  cases x with
  | tmp i =>
    have := h _ _ (fget_mem hx)
    simp [Act.eval, this]
  | const u => simpa [opv, Act.eval] using hx
  | global g => simpa [opv, Act.eval] using hx
  | func f => simpa [opv, Act.eval] using hx

/-- what a block holds, by its place in the list -/
inductive At : Heap → Nat → AObj → Nat → Prop
  | here {b o H} : At ((b, o) :: H) b o 0
  | there {b o H x i} : At H b o i → At (x :: H) b o (i + 1)

theorem At.mem {H : Heap} {b : Nat} {o : AObj} {i : Nat} (h : At H b o i) : (b, o) ∈ H := by
  induction h with
  | here => simp
  | there _ ih => exact List.mem_cons_of_mem _ ih

def hset : Heap → Nat → AObj → Heap
  | [], _, _ => []
  | (b, _) :: H, 0, o => (b, o) :: H
  | x :: H, i + 1, o => x :: hset H i o

theorem keys_hset (H : Heap) : ∀ (i : Nat) (o : AObj), keys (hset H i o) = keys H := by
  induction H with
  | nil => intro i o; rfl
  | cons x H ih =>
    intro i o
    obtain ⟨b, o'⟩ := x
    cases i with
    | zero => rfl
    | succ i => simp only [hset, keys, List.map_cons] at ih ⊢; rw [ih]

theorem SL.at {A : AHeap} {H : Heap} {b : Nat} {o : AObj} {i : Nat} (h : SL A H) (ha : At H b o i) : A.get b = o := (h.2 _ ha.mem).1

theorem At.key {H : Heap} {b : Nat} {o : AObj} {i : Nat} (h : At H b o i) : b ∈ keys H := List.mem_map.2 ⟨_, h.mem, rfl⟩

theorem mem_hset {H : Heap} {b : Nat} {o o' : AObj} {i : Nat} (ha : At H b o i) (hn : (keys H).Nodup) : ∀ x ∈ hset H i o', (x.1 = b ∧ x.2 = o') ∨ (x.1 ≠ b ∧ x ∈ H) := by
  induction ha with
  | here =>
    rename_i b o H
    intro x hx
    simp only [hset] at hx
    rcases List.mem_cons.1 hx with rfl | hx
    · exact .inl ⟨rfl, rfl⟩
    · refine .inr ⟨fun he => ?_, List.mem_cons_of_mem _ hx⟩
      simp only [keys, List.map_cons, List.nodup_cons] at hn
      exact hn.1 (List.mem_map.2 ⟨x, hx, he⟩)
  | there ha ih =>
    rename_i b o H y i
    intro x hx
    simp only [hset] at hx
    simp only [keys, List.map_cons, List.nodup_cons] at hn
    rcases List.mem_cons.1 hx with rfl | hx
    · refine .inr ⟨fun he => hn.1 ?_, List.mem_cons_self⟩
      rw [he]; exact ha.key
    · rcases ih hn.2 x hx with h | h
      · exact .inl h
      · exact .inr ⟨h.1, List.mem_cons_of_mem _ h.2⟩

theorem SL.set {A : AHeap} {H : Heap} {b : Nat} {o : AObj} {i : Nat} (h : SL A H) (ha : At H b o i) (o' : AObj) :
    SL (A.set b o') (hset H i o') ∧ KF A H (A.set b o') (hset H i o') := by
  refine ⟨⟨by rw [keys_hset]; exact h.1, fun x hx => ?_⟩, ⟨rfl, rfl⟩, Nat.le_refl _, fun c hc => .inl (by rwa [keys_hset] at hc), fun c _ hn => ?_⟩
  · rcases mem_hset ha h.1 x hx with ⟨h1, h2⟩ | ⟨h1, h2⟩
    · subst h2
      rw [h1]
      exact ⟨by simp [AHeap.set], (h.2 _ ha.mem).2⟩
    · exact ⟨by simp only [AHeap.set, if_neg h1]; exact (h.2 x h2).1, (h.2 x h2).2⟩
  · have : c ≠ b := fun he => hn (he ▸ ha.key)
    simp [AHeap.set, this]

theorem SL.fresh {A : AHeap} {H : Heap} (h : SL A H) : A.next ∉ keys H := fun hm => by
  obtain ⟨x, hx, he⟩ := List.mem_map.1 hm
  have := (h.2 x hx).2
  omega

theorem SL.push {A : AHeap} {H : Heap} (h : SL A H) (o : AObj) : SL (A.push o) ((A.next, o) :: H) ∧ KF A H (A.push o) ((A.next, o) :: H) := by
  refine ⟨⟨?_, fun x hx => ?_⟩, ⟨rfl, rfl⟩, Nat.le_succ _, fun c hc => ?_, fun c hc hn => ?_⟩
  · simp only [keys, List.map_cons, List.nodup_cons]; exact ⟨h.fresh, h.1⟩
  · rcases List.mem_cons.1 hx with rfl | hx
    · exact ⟨by simp [AHeap.push], by simp [AHeap.push]⟩
    · have hlt := (h.2 x hx).2
      refine ⟨?_, Nat.lt_succ_of_lt hlt⟩
      have : x.1 ≠ A.next := by omega
      simp only [AHeap.push, if_neg this]; exact (h.2 x hx).1
  · simp only [keys, List.map_cons, List.mem_cons] at hc
    rcases hc with rfl | hc
    · exact .inr (Nat.le_refl _)
    · exact .inl hc
  · have : c ≠ A.next := by omega
    simp [AHeap.push, this]

/-! Operations: those that hang on nothing but their operands; those that only read; the others. -/

def pureS (P : Program) (o : Oper) (F : Fr) (s : Sem Next) (v : Value) : Prop :=
  (∀ t, TR F t → execOp (Act.eval ⟨t, []⟩) o = s) ∧ ∀ A, SemR P s A (.value v)

def readS (P : Program) (o : Oper) (F : Fr) (H : Heap) (s : Sem Next) (v : Value) : Prop :=
  (∀ t, TR F t → execOp (Act.eval ⟨t, []⟩) o = s) ∧ ∀ A, SL A H → SemR P s A (.value v)

def opS (P : Program) (o : Oper) (F : Fr) (H : Heap) (K : Value → Heap → Prop) : Prop :=
  ∀ A t, TR F t → SL A H → opA P o t A (fun v A' => ∃ H', SL A' H' ∧ KF A H A' H' ∧ K v H')

theorem pureS.read {P : Program} {o : Oper} {F : Fr} {H : Heap} {s : Sem Next} {v : Value} (h : pureS P o F s v) : readS P o F H s v := ⟨h.1, fun A _ => h.2 A⟩

theorem readS.op {P : Program} {o : Oper} {F : Fr} {H : Heap} {s : Sem Next} {v : Value} {K : Value → Heap → Prop} (h : readS P o F H s v) (hk : K v H) : opS P o F H K := by
  intro A t hF hH
  unfold opA
  rw [h.1 t hF]
  exact (h.2 A hH).sem ⟨H, hH, .refl _ _, hk⟩

theorem opS.mono {P : Program} {o : Oper} {F : Fr} {H : Heap} {K L : Value → Heap → Prop} (h : opS P o F H K) (hk : ∀ v H', K v H' → L v H') : opS P o F H L := by
  intro A t hF hH
  refine (h A t hF hH).mono (fun nx A' _ hx => ?_)
  cases nx <;> simp only [opNext] at hx ⊢
  · obtain ⟨H', h1, h2, h3⟩ := hx; exact ⟨H', h1, h2, hk _ _ h3⟩
  · obtain ⟨H', h1, h2, h3⟩ := hx; exact ⟨H', h1, h2, hk _ _ h3⟩
  · exact hx.mono fun v A' _ ⟨H', h1, h2, h3⟩ => ⟨H', h1, h2, hk _ _ h3⟩

/-! A region in the order of the text. -/

def OpsS (P : Program) (N : Nat) (ops : Array Oper) (K : Fr → Heap → Prop) (l : List Oper) (F : Fr) (H : Heap) : Prop :=
  ∀ A t, t.size = N → TR F t → SL A H → OpsA P ops (fun t' A' => t'.size = N ∧ ∃ F' H', TR F' t' ∧ SL A' H' ∧ KF A H A' H' ∧ K F' H') l t A

theorem OpsA_mono {P : Program} {ops : Array Oper} {K L : Array Value → AHeap → Prop} (hk : ∀ t A, K t A → L t A) : ∀ (l : List Oper) {t : Array Value} {A : AHeap},
    OpsA P ops K l t A → OpsA P ops L l t A := by
  intro l
  induction l with
  | nil => intro t A h; exact hk _ _ h
  | cons o l ih =>
    intro t A h
    simp only [OpsA] at h ⊢
    split
    · rename_i hw
      rw [if_pos hw] at h
      unfold opA at h ⊢
      refine h.mono (fun nx A' _ hx => ?_)
      cases nx <;> simp only [opNext] at hx ⊢
      · exact ih hx
      · exact ih hx
      · exact hx.mono fun v A' _ hx => ih hx
    · rename_i hw
      rw [if_neg hw] at h
      exact ih h

section ops
variable {P : Program} {N : Nat} {ops : Array Oper} {K : Fr → Heap → Prop} {l : List Oper} {F : Fr} {H : Heap}

theorem opsS_nil (h : K F H) : OpsS P N ops K [] F H := fun A _ hs hF hH => ⟨hs, F, H, hF, hH, .refl A H, h⟩

theorem opsS_op {o : Oper} (hg : o.guard = none) (hd : dstOk N o.dst = true) (h : ∀ K' : Value → Heap → Prop, (∀ v H', OpsS P N ops K l (fput F o.dst v) H' → K' v H') → opS P o F H K') :
    OpsS P N ops K (o :: l) F H := by
  intro A t hs hF hH
  simp only [OpsA]
  rw [if_pos (by simp [Region.wanted, hg])]
  have := h _ (fun _ _ h => h) A t hF hH
  unfold opA at this ⊢
  have step : ∀ v A', (∃ H', SL A' H' ∧ KF A H A' H' ∧ OpsS P N ops K l (fput F o.dst v) H') →
      OpsA P ops (fun t' A' => t'.size = N ∧ ∃ F' H', TR F' t' ∧ SL A' H' ∧ KF A H A' H' ∧ K F' H') l (putT t o.dst v) A' := by
    rintro v A' ⟨H', h1, h2, h3⟩
    refine OpsA_mono ?_ l (h3 A' (putT t o.dst v) (by rw [size_putT]; exact hs) (hF.put hs hd v) h1)
    rintro t' A'' ⟨hs', F'', H'', k1, k2, k3, k4⟩
    exact ⟨hs', F'', H'', k1, k2, h2.trans k3, k4⟩
  refine this.mono (fun nx A' _ hx => ?_)
  cases nx <;> simp only [opNext] at hx ⊢
  · exact step _ _ hx
  · exact step _ _ hx
  · exact hx.mono fun v A' _ hx => step _ _ hx

theorem opsS_read {o : Oper} {s : Sem Next} {v : Value} (hg : o.guard = none) (hd : dstOk N o.dst = true) (hr : readS P o F H s v) (h : OpsS P N ops K l (fput F o.dst v) H) :
    OpsS P N ops K (o :: l) F H := opsS_op hg hd fun _ hk => hr.op (hk _ _ h)

theorem opsS_pure {o : Oper} {s : Sem Next} {v : Value} (hg : o.guard = none) (hd : dstOk N o.dst = true) (hr : pureS P o F s v) (h : OpsS P N ops K l (fput F o.dst v) H) :
    OpsS P N ops K (o :: l) F H := opsS_read hg hd hr.read h

/-- the operation's guard: the slot that it asks, and what stands there -/
def guardS (ops : Array Oper) (F : Fr) (o : Oper) (b : Bool) : Prop :=
  ∃ j want d c, o.guard = some (j, want) ∧ (ops[j]?).bind (·.dst) = some d ∧ fget F d = some (.bool c) ∧ b = (c == want)

theorem guardS.wanted {o : Oper} {b : Bool} (h : guardS ops F o b) {t : Array Value} (hF : TR F t) : Region.wanted o (yielded ops t) = b := by
  obtain ⟨j, want, d, c, h1, h2, h3, rfl⟩ := h
  have := hF _ _ (fget_mem h3)
  simp only [Region.wanted, h1]
  unfold yielded
  simp only [h2]
  simp [this]

end ops
end Go.Am

namespace Go.Am
open Go

section ops
variable {P : Program} {N : Nat} {ops : Array Oper} {K : Fr → Heap → Prop} {l : List Oper} {F : Fr} {H : Heap}

theorem opsS_on {o : Oper} (hg : guardS ops F o true) (hd : dstOk N o.dst = true) (h : ∀ K' : Value → Heap → Prop, (∀ v H', OpsS P N ops K l (fput F o.dst v) H' → K' v H') → opS P o F H K') :
    OpsS P N ops K (o :: l) F H := by
  intro A t hs hF hH
  simp only [OpsA]
  rw [if_pos (hg.wanted hF)]
  have := h _ (fun _ _ h => h) A t hF hH
  unfold opA at this ⊢
  have step : ∀ v A', (∃ H', SL A' H' ∧ KF A H A' H' ∧ OpsS P N ops K l (fput F o.dst v) H') →
      OpsA P ops (fun t' A' => t'.size = N ∧ ∃ F' H', TR F' t' ∧ SL A' H' ∧ KF A H A' H' ∧ K F' H') l (putT t o.dst v) A' := by
    rintro v A' ⟨H', h1, h2, h3⟩
    refine OpsA_mono ?_ l (h3 A' (putT t o.dst v) (by rw [size_putT]; exact hs) (hF.put hs hd v) h1)
    rintro t' A'' ⟨hs', F'', H'', k1, k2, k3, k4⟩
    exact ⟨hs', F'', H'', k1, k2, h2.trans k3, k4⟩
  refine this.mono (fun nx A' _ hx => ?_)
  cases nx <;> simp only [opNext] at hx ⊢
  · exact step _ _ hx
  · exact step _ _ hx
  · exact hx.mono fun v A' _ hx => step _ _ hx

theorem opsS_on_read {o : Oper} {s : Sem Next} {v : Value} (hg : guardS ops F o true) (hd : dstOk N o.dst = true) (hr : readS P o F H s v) (h : OpsS P N ops K l (fput F o.dst v) H) :
    OpsS P N ops K (o :: l) F H := opsS_on hg hd fun _ hk => hr.op (hk _ _ h)

theorem opsS_on_pure {o : Oper} {s : Sem Next} {v : Value} (hg : guardS ops F o true) (hd : dstOk N o.dst = true) (hr : pureS P o F s v) (h : OpsS P N ops K l (fput F o.dst v) H) :
    OpsS P N ops K (o :: l) F H := opsS_on_read hg hd hr.read h

theorem opsS_off {o : Oper} (hg : guardS ops F o false) (hd : dstOk N o.dst = true) (h : OpsS P N ops K l (fput F o.dst undef) H) : OpsS P N ops K (o :: l) F H := by
  intro A t hs hF hH
  simp only [OpsA]
  rw [if_neg (by rw [hg.wanted hF]; simp)]
  exact h A _ (by rw [size_putT]; exact hs) (hF.put hs hd undef) hH

end ops

/-! Pieces of code. -/

def liftS (N : Nat) (A : AHeap) (H : Heap) (Q : Exit → Fr → Heap → Prop) : Exit → Array Value → AHeap → Prop :=
  fun e t A' => t.size = N ∧ ∃ F' H', TR F' t ∧ SL A' H' ∧ KF A H A' H' ∧ Q e F' H'

def CodeS (P : Program) (N : Nat) (c : Code) (F : Fr) (H : Heap) (Q : Exit → Fr → Heap → Prop) : Prop :=
  ∀ A t, t.size = N → TR F t → SL A H → CodeA P c t A (liftS N A H Q)

def thenS (K : Fr → Heap → Prop) (Q : Exit → Fr → Heap → Prop) : Exit → Fr → Heap → Prop
  | .normal, F, H => K F H
  | e, F, H => Q e F H

def inBlockS (id : Nat) (Q : Exit → Fr → Heap → Prop) : Exit → Fr → Heap → Prop
  | .exit id', F, H => bif Nat.beq id' id then Q .normal F H else Q (.exit id') F H
  | e, F, H => Q e F H

section code
variable {P : Program} {N : Nat} {F : Fr} {H : Heap} {Q : Exit → Fr → Heap → Prop}

theorem liftS_trans {A B : AHeap} {G : Heap} (hk : KF A H B G) {e : Exit} {t : Array Value} {C : AHeap} (h : liftS N B G Q e t C) : liftS N A H Q e t C :=
  ⟨h.1, let ⟨F', H', h1, h2, h3, h4⟩ := h.2; ⟨F', H', h1, h2, hk.trans h3, h4⟩⟩

theorem CodeS.mono {c : Code} {R : Exit → Fr → Heap → Prop} (h : CodeS P N c F H Q) (hr : ∀ e F' H', Q e F' H' → R e F' H') : CodeS P N c F H R :=
  fun A t hs hF hH => (h A t hs hF hH).mono fun _ _ _ ⟨h0, F', H', h1, h2, h3, h4⟩ => ⟨h0, F', H', h1, h2, h3, hr _ _ _ h4⟩

theorem codeS_skip (h : Q .normal F H) : CodeS P N .skip F H Q := fun A _ hs hF hH => codeA_skip ⟨hs, F, H, hF, hH, .refl A H, h⟩
theorem codeS_label {l : Nat} (h : Q .normal F H) : CodeS P N (.label l) F H Q := fun A _ hs hF hH => codeA_label ⟨hs, F, H, hF, hH, .refl A H, h⟩
theorem codeS_exit {id : Nat} (h : Q (.exit id) F H) : CodeS P N (.exit id) F H Q := fun A _ hs hF hH => codeA_exit ⟨hs, F, H, hF, hH, .refl A H, h⟩
theorem codeS_ret (h : Q .ret F H) : CodeS P N .ret F H Q := fun A _ hs hF hH => codeA_ret ⟨hs, F, H, hF, hH, .refl A H, h⟩

/-- forget slots -/
theorem codeS_keep {c : Code} (l : List Nat) {F' : Fr} (hf : fkeep F l = F') (h : CodeS P N c F' H Q) : CodeS P N c F H Q :=
  fun A t hs hF hH => h A t hs (hf ▸ hF.keep l) hH

/-- forget blocks, or put them in another order -/
theorem SL.sub {A : AHeap} {H G : Heap} (h : SL A H) (hn : (keys G).Nodup) (hs : ∀ x ∈ G, x ∈ H) : SL A G := ⟨hn, fun x hx => h.2 x (hs x hx)⟩

theorem codeS_seq {x y : Code} (h : ∀ K : Fr → Heap → Prop, (∀ F H, CodeS P N y F H Q → K F H) → CodeS P N x F H (thenS K Q)) : CodeS P N (.seq x y) F H Q := by
  intro A t hs hF hH
  refine codeA_seq fun K hK => ?_
  refine (h _ (fun _ _ h => h) A t hs hF hH).mono fun e t' A' hq => ?_
  obtain ⟨hs', F', H', h1, h2, h3, h4⟩ := hq
  cases e with
  | normal => exact hK _ _ ((h4 A' t' hs' h1 h2).mono fun _ _ _ hl => liftS_trans h3 hl)
  | _ => exact ⟨hs', F', H', h1, h2, h3, h4⟩

theorem codeS_cond {c : Operand} {x y : Code} {b : Bool} (hc : opv F c = some (.bool b)) (ht : b = true → CodeS P N x F H Q) (hf : b = false → CodeS P N y F H Q) :
    CodeS P N (.cond c x y) F H Q :=
  fun A t hs hF hH => codeA_cond (opv_eval hF hc) (fun h => ht h A t hs hF hH) (fun h => hf h A t hs hF hH)

theorem codeS_cond_t {c : Operand} {x y : Code} (hc : opv F c = some (.bool true)) (ht : CodeS P N x F H Q) : CodeS P N (.cond c x y) F H Q :=
  codeS_cond hc (fun _ => ht) (fun h => by cases h)
theorem codeS_cond_f {c : Operand} {x y : Code} (hc : opv F c = some (.bool false)) (hf : CodeS P N y F H Q) : CodeS P N (.cond c x y) F H Q :=
  codeS_cond hc (fun h => by cases h) (fun _ => hf)

theorem codeS_block {id : Nat} {c : Code} (h : CodeS P N c F H (inBlockS id Q)) : CodeS P N (.block id c) F H Q := by
  intro A t hs hF hH
  refine codeA_block ((h A t hs hF hH).mono fun e t' A' hq => ?_)
  obtain ⟨hs', F', H', h1, h2, h3, h4⟩ := hq
  cases e with
  | exit id' =>
    simp only [inBlockA]
    simp only [inBlockS] at h4
    by_cases hid : id' = id
    · subst hid
      rw [if_pos rfl]
      have : Nat.beq id' id' = true := by simp
      rw [this] at h4
      exact ⟨hs', F', H', h1, h2, h3, h4⟩
    · rw [if_neg hid]
      have : Nat.beq id' id = false := by
        cases hb : Nat.beq id' id with
        | false => rfl
        | true => exact absurd (Nat.eq_of_beq_eq_true hb) hid
      rw [this] at h4
      exact ⟨hs', F', H', h1, h2, h3, h4⟩
  | _ => exact ⟨hs', F', H', h1, h2, h3, h4⟩

theorem codeS_region {id : Nat} {l : List Oper} (h : OpsS P N l.toArray (fun F' H' => Q .normal F' H') l F H) : CodeS P N (.region id l.toArray false) F H Q :=
  fun A t hs hF hH => codeA_region (h A t hs hF hH)

theorem codeS_loop {c : Code} (I : Nat → Fr → Heap → Prop) (n : Nat) (h0 : I n F H)
    (round : ∀ n F' H', I n F' H' → CodeS P N c F' H' (thenS (fun F'' H'' => ∃ m, m < n ∧ I m F'' H'') Q)) : CodeS P N (.loop c) F H Q := by
  intro A t hs hF hH
  refine codeA_loop (fun n t' A' => t'.size = N ∧ ∃ F' H', TR F' t' ∧ SL A' H' ∧ KF A H A' H' ∧ I n F' H') n ⟨hs, F, H, hF, hH, .refl A H, h0⟩ ?_
  rintro n t' A' _ ⟨hs', F', H', h1, h2, h3, hI⟩
  refine (round n F' H' hI A' t' hs' h1 h2).mono fun e t'' A'' hq => ?_
  obtain ⟨hs'', F'', H'', k1, k2, k3, k4⟩ := hq
  cases e with
  | normal =>
    obtain ⟨m, hm, hI'⟩ := k4
    exact ⟨m, hm, hs'', F'', H'', k1, k2, h3.trans k3, hI'⟩
  | _ => exact ⟨hs'', F'', H'', k1, k2, h3.trans k3, k4⟩

end code

/-! Calls. -/

def CallS (P : Program) (f : FuncId) (args : Array Value) (H : Heap) (Q : Value → Heap → Prop) : Prop :=
  ∀ A, SL A H → CallA P f args A (fun v A' => ∃ H', SL A' H' ∧ KF A H A' H' ∧ Q v H')

theorem CallS.mono {P : Program} {f : FuncId} {args : Array Value} {H : Heap} {Q R : Value → Heap → Prop} (h : CallS P f args H Q) (hr : ∀ v H', Q v H' → R v H') : CallS P f args H R :=
  fun A hH => (h A hH).mono fun _ _ _ ⟨H', h1, h2, h3⟩ => ⟨H', h1, h2, hr _ _ h3⟩

def ResS (P : Program) (fn : Func) (F : Fr) (H : Heap) (Q : Value → Prop) : Prop := ∀ A t, TR F t → SL A H → ResA P fn t A Q

theorem TR.getD {F : Fr} {t : Array Value} {x : Nat} {v : Value} (h : TR F t) (hx : fget F x = some v) : t.getD x undef = v := by
  have := h _ _ (fget_mem hx)
  simp [this]

theorem resS_tmp {P : Program} {fn : Func} {F : Fr} {H : Heap} {Q : Value → Prop} {x : Tmp} {v : Value} (h : fn.results = #[.tmp x]) (hx : fget F x = some v) (hq : Q v) : ResS P fn F H Q :=
  fun _ t hF _ => resA_tmp h (by rw [hF.getD hx]; exact hq)
theorem resS_none {P : Program} {fn : Func} {F : Fr} {H : Heap} {Q : Value → Prop} (h : fn.results = #[]) (hq : Q (.tuple #[])) : ResS P fn F H Q := fun _ _ _ _ => resA_none h hq
theorem resS_tmp2 {P : Program} {fn : Func} {F : Fr} {H : Heap} {Q : Value → Prop} {x y : Tmp} {v u : Value} (h : fn.results = #[.tmp x, .tmp y]) (hx : fget F x = some v) (hy : fget F y = some u)
    (hq : Q (.tuple #[v, u])) : ResS P fn F H Q := fun _ t hF _ => resA_tmp2 h (by rw [hF.getD hx, hF.getD hy]; exact hq)
theorem resS_tmp3 {P : Program} {fn : Func} {F : Fr} {H : Heap} {Q : Value → Prop} {x y z : Tmp} {v u w : Value} (h : fn.results = #[.tmp x, .tmp y, .tmp z]) (hx : fget F x = some v) (hy : fget F y = some u)
    (hz : fget F z = some w) (hq : Q (.tuple #[v, u, w])) : ResS P fn F H Q := fun _ t hF _ => resA_tmp3 h (by rw [hF.getD hx, hF.getD hy, hF.getD hz]; exact hq)

def doneS (P : Program) (fn : Func) (Q : Value → Heap → Prop) : Exit → Fr → Heap → Prop
  | .normal, F, H | .ret, F, H => ResS P fn F H (fun v => Q v H)
  | _, _, _ => False

def fargs : List Value → Nat → Fr
  | [], _ => []
  | v :: vs, k => (k, v) :: fargs vs (k + 1)

theorem fargs_mem : ∀ (vs : List Value) (k i : Nat) (v : Value), (i, v) ∈ fargs vs k → k ≤ i ∧ vs[i - k]? = some v := by
  intro vs
  induction vs with
  | nil => intro k i v h; simp [fargs] at h
  | cons x vs ih =>
    intro k i v h
    simp only [fargs] at h
    rcases List.mem_cons.1 h with h | h
    · simp only [Prod.mk.injEq] at h
      obtain ⟨rfl, rfl⟩ := h
      exact ⟨Nat.le_refl _, by simp⟩
    · obtain ⟨h1, h2⟩ := ih _ _ _ h
      refine ⟨by omega, ?_⟩
      rw [show i - k = (i - (k + 1)) + 1 by omega, List.getElem?_cons_succ]; exact h2

theorem callS_body {P : Program} {f : FuncId} {fn : Func} {c : Code} {args : List Value} {H : Heap} {Q : Value → Heap → Prop} {N : Nat}
    (hf : P.funcs[f]? = some fn) (hb : fn.body = some c) (hn : fn.ntmps = N) (hl : Nat.ble args.length N = true)
    (h : CodeS P N c (fargs args 0) H (doneS P fn Q)) : CallS P f args.toArray H Q := by
  intro A hH
  have hl' : args.length ≤ N := Nat.le_of_ble_eq_true hl
  refine callA_body hf hb ((h A _ ?_ ?_ hH).mono fun e t' A' hq => ?_)
  · simp [hn]; omega
  · intro i v hm
    obtain ⟨_, h2⟩ := fargs_mem _ _ _ _ hm
    simp only [Nat.sub_zero] at h2
    have hlt : i < args.length := (List.getElem?_eq_some_iff.1 h2).1
    rw [Array.getElem?_append_left (by simpa using hlt)]
    simpa using h2
  · obtain ⟨hs, F', H', h1, h2, h3, h4⟩ := hq
    have key : ResS P fn F' H' (fun v => Q v H') → ResA P fn t' A' (fun v => ∃ H', SL A' H' ∧ KF A H A' H' ∧ Q v H') := fun hr => by
      obtain ⟨v, k1, k2⟩ := hr A' t' h1 h2
      exact ⟨v, k1, H', h2, h3, k2⟩
    cases e with
    | normal => exact key h4
    | ret => exact key h4
    | _ => exact h4.elim

/-! What a call is given of memory, and what stays. -/

inductive Take : Heap → Nat × AObj → Heap → Prop
  | here {x H} : Take (x :: H) x H
  | there {x y H G} : Take H x G → Take (y :: H) x (y :: G)

inductive Sel : Heap → Heap → Heap → Prop
  | nil {R} : Sel R [] R
  | cons {H x G Hc R} : Take H x G → Sel G Hc R → Sel H (x :: Hc) R

theorem Take.perm {H : Heap} {x : Nat × AObj} {G : Heap} (h : Take H x G) : H.Perm (x :: G) := by
  induction h with
  | here => exact .refl _
  | there _ ih => exact (ih.cons _).trans (.swap _ _ _)

theorem Sel.perm {H Hc R : Heap} (h : Sel H Hc R) : H.Perm (Hc ++ R) := by
  induction h with
  | nil => exact .refl _
  | cons ht _ ih => exact ht.perm.trans (ih.cons _)

theorem SL.perm {A : AHeap} {H G : Heap} (h : SL A H) (hp : H.Perm G) : SL A G :=
  ⟨((hp.map (fun x : Nat × AObj => x.1)).nodup_iff).1 h.1, fun x hx => h.2 x (hp.mem_iff.2 hx)⟩

theorem KF.perm {A : AHeap} {H G : Heap} (h : SL A H) (hp : H.Perm G) : KF A H A G :=
  ⟨.refl _, Nat.le_refl _, fun b hb => .inl ((hp.map (·.1)).mem_iff.2 hb), fun _ _ _ => rfl⟩

theorem SL.left {A : AHeap} {H G : Heap} (h : SL A (H ++ G)) : SL A H :=
  ⟨by have := h.1; simp only [keys, List.map_append] at this ⊢; exact (List.nodup_append.1 this).1, fun x hx => h.2 x (List.mem_append_left _ hx)⟩

theorem CallS.frame {P : Program} {f : FuncId} {args : Array Value} {H Hc R : Heap} {Q : Value → Heap → Prop} (h : CallS P f args Hc Q) (hs : Sel H Hc R) :
    CallS P f args H (fun v G => ∃ H', G = H' ++ R ∧ Q v H') := by
  intro A hH
  have hH' := hH.perm hs.perm
  refine (h A hH'.left).mono ?_
  rintro v A' _ ⟨H', h1, h2, h3⟩
  have hkf := KF.perm hH hs.perm
  obtain ⟨k1, k2, k3, k4⟩ := h2
  have hdis : ∀ b ∈ keys R, b ∉ keys Hc := fun b hb hc => by
    have := hH'.1
    simp only [keys, List.map_append] at this hb hc
    exact (List.nodup_append.1 this).2.2 b hc b hb rfl
  have hRlt : ∀ b ∈ keys R, b < A.next := fun b hb => by
    obtain ⟨x, hx, rfl⟩ := List.mem_map.1 hb
    exact (hH'.2 x (List.mem_append_right _ hx)).2
  refine ⟨H' ++ R, ⟨?_, fun x hx => ?_⟩, ⟨k1, k2, fun b hb => ?_, fun b hb hn => ?_⟩, H', rfl, h3⟩
  · simp only [keys, List.map_append, List.nodup_append]
    refine ⟨h1.1, ?_, fun a ha b hb hab => ?_⟩
    · have := hH'.1
      simp only [keys, List.map_append] at this
      exact (List.nodup_append.1 this).2.1
    · subst hab
      rcases k3 a ha with hc | hc
      · exact hdis a hb hc
      · have := hRlt a hb; omega
  · rcases List.mem_append.1 hx with hx | hx
    · exact h1.2 x hx
    · have hk : x.1 ∈ keys R := List.mem_map.2 ⟨x, hx, rfl⟩
      have hlt := hRlt _ hk
      exact ⟨by rw [k4 x.1 hlt (hdis _ hk)]; exact (hH'.2 x (List.mem_append_right _ hx)).1, Nat.lt_of_lt_of_le hlt k2⟩
  · have hm : ∀ c, c ∈ keys Hc ∨ c ∈ keys R → c ∈ keys H := fun c hc => by
      have := (hs.perm.map (·.1)).mem_iff (a := c)
      simp only [List.map_append, List.mem_append] at this
      exact this.2 hc
    simp only [keys, List.map_append, List.mem_append] at hb
    rcases hb with hb | hb
    · rcases k3 b hb with hc | hc
      · exact .inl (hm _ (.inl hc))
      · exact .inr hc
    · exact .inl (hm _ (.inr hb))
  · refine k4 b hb (fun hc => hn ?_)
    have := (hs.perm.map (·.1)).mem_iff (a := b)
    simp only [List.map_append, List.mem_append] at this
    exact this.2 (.inl hc)

def opvL (F : Fr) : List Operand → Option (List Value)
  | [] => some []
  | x :: xs => match opv F x, opvL F xs with
    | some v, some vs => some (v :: vs)
    | _, _ => none

theorem opvL_eval {F : Fr} {t : Array Value} (h : TR F t) : ∀ {xs : List Operand} {vs : List Value}, opvL F xs = some vs → xs.map (Act.mk t []).eval = vs := by
  intro xs
  induction xs with
  | nil => intro vs hx; simp only [opvL, Option.some.injEq] at hx; subst hx; rfl
  | cons x xs ih =>
    intro vs hx
    simp only [opvL] at hx
    split at hx
    · rename_i v vs' hv hvs
      simp only [Option.some.injEq] at hx
      subst hx
      rw [List.map_cons, opv_eval h hv, ih hvs]
    · cases hx

def entersB (P : Program) (k : FuncId) : Bool :=
  match P.funcs[k]? with
  | some fn => fn.body.isSome && !(fn.name == "runtime.NumGoroutine")
  | none => false

theorem callFunc_enters {P : Program} {k : FuncId} (h : entersB P k = true) (args : Array Value) (A : AHeap) (Q : Next → AHeap → Prop) (hq : Q (.enter k args) A) : SemA P (callFunc k args) A Q := by
  unfold entersB at h
  split at h
  · rename_i fn hfn
    simp only [Bool.and_eq_true, Bool.not_eq_true'] at h
    obtain ⟨hb, hnm⟩ := h
    have hb' : fn.body.isNone = false := by cases hx : fn.body <;> simp_all
    refine SemR.sem (a := .enter k args) (fun w _ => ?_) hq
    have h1 : ¬ fn.name = "runtime.NumGoroutine" := by simpa using hnm
    have h2 : ¬ fn.body = none := fun hx => by rw [hx] at hb'; cases hb'
    simp [callFunc, hfn, h1, h2]
  · cases h

/-- a call of a function, or of a closure -/
theorem opS_call {P : Program} {F : Fr} {H Hc R : Heap} {K : Value → Heap → Prop} {o : Oper} {fo : Operand} {k : FuncId} {xs : List Operand} {ats : Array TypeId} {vs : List Value} {first captured : Array Value}
    {Q : Value → Heap → Prop} {args : Array Value}
    (ho : o.op = .call { callee := .value fo, args := xs.toArray, argTypes := ats }) (hfo : opv F fo = some (.func (.func k) first captured)) (hxs : opvL F xs = some vs) (he : entersB P k = true)
    (hargs : (first ++ vs.toArray) ++ captured = args) (hc : CallS P k args Hc Q) (hs : Sel H Hc R) (hk : ∀ v H', Q v H' → K v (H' ++ R)) : opS P o F H K := by
  intro A t hF hH
  unfold opA
  have hev : execOp (Act.eval ⟨t, []⟩) o = callFunc k args := by
    obtain ⟨dst, op, ty, pos, af, g⟩ := o
    simp only at ho
    subst ho
    simp only [execOp, resolve, opv_eval hF hfo, Deferred.ofValue]
    have : xs.toArray.map (Act.mk t []).eval = vs.toArray := by
      rw [List.map_toArray, opvL_eval hF hxs]
    rw [this, ← hargs]
    rfl
  rw [hev]
  refine callFunc_enters he args A _ ?_
  refine ((hc.frame hs) A hH).mono ?_
  rintro v A' _ ⟨G, h1, h2, H', rfl, h3⟩
  exact ⟨_, h1, h2, hk _ _ h3⟩

end Go.Am

namespace Go.Am
open Go

def qS (P : Program) (x : Ahead) (H : Heap) : Prop := ∀ A, SL A H → HoldsA P A x

inductive ActOk (P : Program) (ops : List Oper) (k : Nat) (H : Heap) : List Ahead → List Ahead → Prop
  | nil : ActOk P ops k H [] []
  | drop {x l l'} : (taints ops x.1).getD k false = true → ActOk P ops k H l l' → ActOk P ops k H (x :: l) l'
  | keep {x l l'} : qS P x H → ActOk P ops k H l l' → ActOk P ops k H (x :: l) (x :: l')

theorem ActOk.spec {P : Program} {ops : List Oper} {k : Nat} {H : Heap} {l l' : List Ahead} (h : ActOk P ops k H l l') : ∀ x ∈ l, (taints ops x.1).getD k false = true ∨ (x ∈ l' ∧ qS P x H) := by
  induction h with
  | nil => intro x hx; cases hx
  | drop ht _ ih =>
    intro x hx
    rcases List.mem_cons.1 hx with rfl | hx
    · exact .inl ht
    · exact ih x hx
  | keep hq _ ih =>
    intro x hx
    rcases List.mem_cons.1 hx with rfl | hx
    · exact .inr ⟨List.mem_cons_self, hq⟩
    · exact (ih x hx).imp id fun h => ⟨List.mem_cons_of_mem _ h.1, h.2⟩

def CanonS (P : Program) (N : Nat) (ops : List Oper) (K : Fr → Heap → Prop) (π : List (Nat × Bool)) (act : List Ahead) (F : Fr) (H : Heap) : Prop :=
  ∀ act' A t, (∀ x ∈ act', (∀ B, HoldsA P B x) ∨ x ∈ act) → t.size = N → TR F t → SL A H →
    CanonA P ops (fun t' A' => t'.size = N ∧ ∃ F' H', TR F' t' ∧ SL A' H' ∧ KF A H A' H' ∧ K F' H') π act' t A

theorem CanonA_mono {P : Program} {ops : List Oper} {Q R : Array Value → AHeap → Prop} (hk : ∀ t A, Q t A → R t A) : ∀ (π : List (Nat × Bool)) {act : List Ahead} {t : Array Value} {A : AHeap},
    CanonA P ops Q π act t A → CanonA P ops R π act t A := by
  intro π
  induction π with
  | nil => intro act t A h; exact hk _ _ h
  | cons x π ih =>
    obtain ⟨i, q⟩ := x
    intro act t A h
    cases q with
    | true =>
      simp only [CanonA] at h ⊢
      cases ho : ops[i]? with
      | none => rw [ho] at h; exact h
      | some o =>
        rw [ho] at h
        simp only at h ⊢
        split
        · rename_i hw; rw [if_pos hw] at h; obtain ⟨v, h1, h2⟩ := h; exact ⟨v, h1, ih h2⟩
        · rename_i hw; rw [if_neg hw] at h; exact ih h
    | false =>
      simp only [CanonA] at h ⊢
      cases ho : ops[i]? with
      | none => rw [ho] at h; exact h
      | some o =>
        rw [ho] at h
        simp only at h ⊢
        split
        · rename_i hw
          rw [if_pos hw] at h
          unfold opA at h ⊢
          refine h.mono (fun nx A' _ hx => ?_)
          cases nx <;> simp only [opNext] at hx ⊢
          · exact ⟨hx.1, ih hx.2⟩
          · exact ⟨hx.1, ih hx.2⟩
          · exact hx.mono fun v A' _ hx => ⟨hx.1, ih hx.2⟩
        · rename_i hw; rw [if_neg hw] at h; exact ih h

section draw
variable {P : Program} {N : Nat} {ops : List Oper} {K : Fr → Heap → Prop} {π : List (Nat × Bool)} {act : List Ahead} {F : Fr} {H : Heap}

theorem canonS_nil (h : K F H) : CanonS P N ops K [] act F H := fun _ A _ _ hs hF hH => ⟨hs, F, H, hF, hH, .refl A H, h⟩

/-- wanted: there is no guard, or it is on -/
def onS (ops : Array Oper) (F : Fr) (o : Oper) : Prop := o.guard = none ∨ guardS ops F o true

theorem onS.wanted {ops : Array Oper} {F : Fr} {o : Oper} (h : onS ops F o) {t : Array Value} (hF : TR F t) : Region.wanted o (yielded ops t) = true := by
  rcases h with h | h
  · simp [Region.wanted, h]
  · exact h.wanted hF

theorem canonS_read {i : Nat} {o : Oper} {s : Sem Next} {v : Value} (ho : ops[i]? = some o) (hg : onS ops.toArray F o) (hd : dstOk N o.dst = true) (hr : readS P o F H s v)
    (h : CanonS P N ops K π ((i, s, v) :: act) (fput F o.dst v) H) : CanonS P N ops K ((i, true) :: π) act F H := by
  intro act' A t hact hs hF hH
  simp only [CanonA, ho]
  rw [if_pos (hg.wanted hF), hr.1 t hF]
  refine ⟨v, hr.2 A hH, ?_⟩
  refine h _ A _ (fun x hx => ?_) (by rw [size_putT]; exact hs) (hF.put hs hd v) hH
  rcases List.mem_cons.1 hx with rfl | hx
  · exact .inr List.mem_cons_self
  · exact (hact x hx).imp id fun h => List.mem_cons_of_mem _ h

theorem canonS_pure {i : Nat} {o : Oper} {s : Sem Next} {v : Value} (ho : ops[i]? = some o) (hg : onS ops.toArray F o) (hd : dstOk N o.dst = true) (hr : pureS P o F s v)
    (h : CanonS P N ops K π act (fput F o.dst v) H) : CanonS P N ops K ((i, true) :: π) act F H := by
  intro act' A t hact hs hF hH
  simp only [CanonA, ho]
  rw [if_pos (hg.wanted hF), hr.1 t hF]
  refine ⟨v, hr.2 A, ?_⟩
  refine h _ A _ (fun x hx => ?_) (by rw [size_putT]; exact hs) (hF.put hs hd v) hH
  rcases List.mem_cons.1 hx with rfl | hx
  · exact .inl fun B => hr.2 B
  · exact hact x hx

theorem canonS_off {i : Nat} {q : Bool} {o : Oper} {act2 : List Ahead} (ho : ops[i]? = some o) (hg : guardS ops.toArray F o false) (hd : dstOk N o.dst = true) (hq : q = true ∨ ∀ x ∈ act, x ∈ act2 ∨ (taints ops x.1).getD i false = true)
    (hq2 : q = true → act2 = act) (h : CanonS P N ops K π act2 (fput F o.dst undef) H) : CanonS P N ops K ((i, q) :: π) act F H := by
  intro act' A t hact hs hF hH
  have hw := hg.wanted hF
  cases q with
  | true =>
    obtain rfl := hq2 rfl
    simp only [CanonA, ho]
    rw [if_neg (by rw [hw]; simp)]
    exact h _ A _ hact (by rw [size_putT]; exact hs) (hF.put hs hd undef) hH
  | false =>
    simp only [CanonA, ho]
    rw [if_neg (by rw [hw]; simp)]
    refine h _ A _ (fun x hx => ?_) (by rw [size_putT]; exact hs) (hF.put hs hd undef) hH
    simp only [dropT, List.mem_filter, Bool.not_eq_true'] at hx
    rcases hact x hx.1 with h1 | h1
    · exact .inl h1
    · rcases (hq.resolve_left (by simp)) x h1 with h2 | h2
      · exact .inr h2
      · rw [hx.2] at h2; cases h2

theorem canonS_op {k : Nat} {o : Oper} {act2 : List Ahead} (ho : ops[k]? = some o) (hg : onS ops.toArray F o) (hd : dstOk N o.dst = true)
    (h : ∀ K' : Value → Heap → Prop, (∀ v H', ActOk P ops k H' act act2 → CanonS P N ops K π act2 (fput F o.dst v) H' → K' v H') → opS P o F H K') :
    CanonS P N ops K ((k, false) :: π) act F H := by
  intro act' A t hact hs hF hH
  simp only [CanonA, ho]
  rw [if_pos (hg.wanted hF)]
  have := h (fun v H' => ActOk P ops k H' act act2 ∧ CanonS P N ops K π act2 (fput F o.dst v) H') (fun _ _ h1 h2 => ⟨h1, h2⟩) A t hF hH
  unfold opA at this ⊢
  have step : ∀ v A', (∃ H', SL A' H' ∧ KF A H A' H' ∧ ActOk P ops k H' act act2 ∧ CanonS P N ops K π act2 (fput F o.dst v) H') →
      (∀ x ∈ dropT ops k act', HoldsA P A' x) ∧ CanonA P ops (fun t' A' => t'.size = N ∧ ∃ F' H', TR F' t' ∧ SL A' H' ∧ KF A H A' H' ∧ K F' H') π (dropT ops k act') (putT t o.dst v) A' := by
    rintro v A' ⟨H', h1, h2, h3, h4⟩
    have hmem : ∀ x ∈ dropT ops k act', (∀ B, HoldsA P B x) ∨ (x ∈ act2 ∧ qS P x H') := fun x hx => by
      simp only [dropT, List.mem_filter, Bool.not_eq_true'] at hx
      rcases hact x hx.1 with h | h
      · exact .inl h
      · rcases h3.spec x h with h' | h'
        · rw [hx.2] at h'; cases h'
        · exact .inr h'
    refine ⟨fun x hx => ?_, ?_⟩
    · rcases hmem x hx with h | h
      · exact h A'
      · exact h.2 A' h1
    · refine CanonA_mono ?_ π (h4 _ A' _ (fun x hx => (hmem x hx).imp id fun h => h.1) (by rw [size_putT]; exact hs) (hF.put hs hd v) h1)
      rintro t' A'' ⟨hs', F'', H'', k1, k2, k3, k4⟩
      exact ⟨hs', F'', H'', k1, k2, h2.trans k3, k4⟩
  refine this.mono (fun nx A' _ hx => ?_)
  cases nx <;> simp only [opNext] at hx ⊢
  · exact step _ _ hx
  · exact step _ _ hx
  · exact hx.mono fun v A' _ hx => step _ _ hx

theorem codeS_draw {id : Nat} {l : List Oper} {Q : Exit → Fr → Heap → Prop} (π : List (Nat × Bool)) (hm : P.follows .mixedOrders = true) (hB : canonTop l π = true)
    (h : CanonS P N l (fun F' H' => Q .normal F' H') π [] F H) : CodeS P N (.region id l.toArray true) F H Q :=
  fun A t hs hF hH => codeA_region_draw π hm hB (h [] A t (by simp) hs hF hH)

end draw

/-! Plain operations. -/

section plain
variable {P : Program} {F : Fr} {d : Option Tmp} {T : TypeId} {ty : TypeId} {p : String} {af : Array Edge} {g : Option (Nat × Bool)}

theorem pureS_of {o : Oper} {s : Sem Next} {v : Value} (h1 : ∀ t, TR F t → execOp (Act.eval ⟨t, []⟩) o = s) (h2 : ∀ w, s.run P w = .ok (.value v) w) : pureS P o F s v :=
  ⟨h1, fun _ w _ => h2 w⟩

theorem pureS_move {x : Operand} {v : Value} (hx : opv F x = some v) : pureS P ⟨d, .move x, ty, p, af, g⟩ F (Pure.pure (.value v)) v :=
  pureS_of (fun t hF => by simp only [execOp, opv_eval hF hx]) (fun _ => rfl)
theorem pureS_assign {x : Operand} {v : Value} (hx : opv F x = some v) : pureS P ⟨d, .assign x, ty, p, af, g⟩ F (Pure.pure (.value v)) v :=
  pureS_of (fun t hF => by simp only [execOp, opv_eval hF hx]) (fun _ => rfl)
theorem pureS_pick {c a b : Operand} {cb : Bool} {va vb : Value} (hc : opv F c = some (.bool cb)) (ha : opv F a = some va) (hb : opv F b = some vb) :
    pureS P ⟨d, .pick c a b, ty, p, af, g⟩ F (Pure.pure (.value (if cb then va else vb))) (if cb then va else vb) :=
  pureS_of (fun t hF => by simp only [execOp, opv_eval hF hc, opv_eval hF ha, opv_eval hF hb, asBool]; rfl) (fun _ => rfl)
theorem pureS_nilCheck {x : Operand} {a : Addr} (hx : opv F x = some (.pointer (some a))) : pureS P ⟨d, .nilCheck x, ty, p, af, g⟩ F (Pure.pure (.value (.pointer (some a)))) (.pointer (some a)) :=
  pureS_of (fun t hF => by simp only [execOp, opv_eval hF hx]) (fun _ => rfl)

/-- a field's place -/
theorem pureS_fieldAddr {x : Operand} {fl : Nat} {a : Addr} {fs : Array Field} {f : Field} {n : Nat} (hT : P.underlying T = some (.struct fs)) (hf : fs[fl]? = some f) (hn : (P.info? f.type).map (·.size) = some (n + 1))
    (hx : opv F x = some (.pointer (some a))) :
    pureS P ⟨d, .fieldAddr T x fl, ty, p, af, g⟩ F (do pure (.value (← Instr.fieldAt T (.pointer (some a)) fl))) (.pointer (some (a.add f.offset))) := by
  refine pureS_of (fun t hF => by simp only [execOp, opv_eval hF hx]) (fun w => ?_)
  obtain ⟨i, hi, hs⟩ := Option.map_eq_some_iff.1 hn
  simp [Instr.fieldAt, underlying, hT, hf, fieldPlace, sizeOf, typeInfo, hi, hs, Instr.sureAddr]

theorem pureS_not {x : Operand} {b : Bool} (hx : opv F x = some (.bool b)) : pureS P ⟨d, .unOp .not T x, ty, p, af, g⟩ F (do pure (.value (← Op.unary .not (.bool b)))) (.bool !b) :=
  pureS_of (fun t hF => by simp only [execOp, opv_eval hF hx]) (fun _ => rfl)
theorem pureS_xor1 {x : Operand} {k : IntKind} {n : Int} {m : Int} (hx : opv F x = some (.int k n)) (hm : k.wrap (BitVec.ofInt k.bits (if k.signed then -1 else k.max) ^^^ BitVec.ofInt k.bits n).toNat = m) :
    pureS P ⟨d, .unOp .xor T x, ty, p, af, g⟩ F (do pure (.value (← Op.unary .xor (.int k n)))) (.int k m) :=
  pureS_of (fun t hF => by simp only [execOp, opv_eval hF hx]) (fun w => by subst hm; rfl)

theorem pureS_conv {x : Operand} {src dst : TypeId} {k j : IntKind} {n : Int} {ds : TypeDesc} (hs : P.underlying src = some ds) (hd : P.underlying dst = some (.int k)) (hx : opv F x = some (.int j n)) :
    pureS P ⟨d, .convert src dst x, ty, p, af, g⟩ F (do pure (.value (← convert src dst (.int j n)))) (.int k (k.wrap n)) :=
  pureS_of (fun t hF => by simp only [execOp, opv_eval hF hx]) (fun w => by
    simp [convert, underlying, hs, hd, Conv.intToInt])

/-- two numbers -/
def binI : BinOp → IntKind → Int → Int → Option Value
  | .add, k, a, b => some (.int k (k.wrap (a + b)))
  | .sub, k, a, b => some (.int k (k.wrap (a - b)))
  | .mul, k, a, b => some (.int k (k.wrap (a * b)))
  | .and, k, a, b => some (.int k (k.wrap (BitVec.ofInt k.bits a &&& BitVec.ofInt k.bits b).toNat))
  | .or, k, a, b => some (.int k (k.wrap (BitVec.ofInt k.bits a ||| BitVec.ofInt k.bits b).toNat))
  | .xor, k, a, b => some (.int k (k.wrap (BitVec.ofInt k.bits a ^^^ BitVec.ofInt k.bits b).toNat))
  | .eql, _, a, b => some (.bool (a == b))
  | .neq, _, a, b => some (.bool (a != b))
  | .lss, _, a, b => some (.bool (a < b))
  | .leq, _, a, b => some (.bool (a ≤ b))
  | .gtr, _, a, b => some (.bool (a > b))
  | .geq, _, a, b => some (.bool (a ≥ b))
  | _, _, _, _ => none

theorem pureS_bin {op : BinOp} {x y : Operand} {yt : TypeId} {k : IntKind} {a b : Int} {v : Value} (hx : opv F x = some (.int k a)) (hy : opv F y = some (.int k b)) (hv : binI op k a b = some v) :
    pureS P ⟨d, .binOp op T x y yt, ty, p, af, g⟩ F (do pure (.value (← (do eqGuard op T x y (.int k a) (.int k b); binOp op T (.int k a) (.int k b))))) v := by
  refine pureS_of (fun t hF => by simp only [execOp, opv_eval hF hx, opv_eval hF hy]) (fun w => ?_)
  cases op <;> simp only [binI, Option.some.injEq, reduceCtorEq] at hv <;> subst hv <;>
    simp [eqGuard, binOp, Op.intArith, Op.intBits, Op.intCmp]

theorem pureS_shift {op : BinOp} {x y : Operand} {yt : TypeId} {k j : IntKind} {a b : Int} {m : Int} (ho : op = .shl ∨ op = .shr) (hx : opv F x = some (.int k a)) (hy : opv F y = some (.int j b)) (hb : 0 ≤ b)
    (hm : (if op = .shl then k.wrap (a * 2 ^ (min b.toNat k.bits)) else a.fdiv (2 ^ (min b.toNat k.bits))) = m) :
    pureS P ⟨d, .binOp op T x y yt, ty, p, af, g⟩ F (do pure (.value (← (do eqGuard op T x y (.int k a) (.int j b); binOp op T (.int k a) (.int j b))))) (.int k m) := by
  refine pureS_of (fun t hF => by simp only [execOp, opv_eval hF hx, opv_eval hF hy]) (fun w => ?_)
  have hnb : ¬ b < 0 := by omega
  rcases ho with rfl | rfl <;> subst hm <;> simp [eqGuard, binOp, Op.shift, hnb]

theorem pureS_div {op : BinOp} {x y : Operand} {yt : TypeId} {k : IntKind} {a b : Int} {m : Int} (ho : op = .quo ∨ op = .rem) (hx : opv F x = some (.int k a)) (hy : opv F y = some (.int k b)) (hb : b ≠ 0)
    (hm : (if op = .quo then k.wrap (a.tdiv b) else a.tmod b) = m) :
    pureS P ⟨d, .binOp op T x y yt, ty, p, af, g⟩ F (do pure (.value (← (do eqGuard op T x y (.int k a) (.int k b); binOp op T (.int k a) (.int k b))))) (.int k m) := by
  refine pureS_of (fun t hF => by simp only [execOp, opv_eval hF hx, opv_eval hF hy]) (fun w => ?_)
  rcases ho with rfl | rfl <;> subst hm <;> simp [eqGuard, binOp, Op.intDiv, hb]

/-- two strings -/
def binT : BinOp → ByteArray → ByteArray → Option Value
  | .eql, a, b => some (.bool (a.toList == b.toList))
  | .neq, a, b => some (.bool !(a.toList == b.toList))
  | .lss, a, b => some (.bool (Op.bytesLess a.toList b.toList))
  | .leq, a, b => some (.bool (Op.bytesLess a.toList b.toList || a.toList == b.toList))
  | .gtr, a, b => some (.bool !(Op.bytesLess a.toList b.toList || a.toList == b.toList))
  | .geq, a, b => some (.bool !(Op.bytesLess a.toList b.toList))
  | _, _, _ => none

theorem pureS_binT {op : BinOp} {x y : Operand} {yt : TypeId} {a b : ByteArray} {v : Value} (hx : opv F x = some (.string a)) (hy : opv F y = some (.string b)) (hv : binT op a b = some v) :
    pureS P ⟨d, .binOp op T x y yt, ty, p, af, g⟩ F (do pure (.value (← (do eqGuard op T x y (.string a) (.string b); binOp op T (.string a) (.string b))))) v := by
  refine pureS_of (fun t hF => by simp only [execOp, opv_eval hF hx, opv_eval hF hy]) (fun w => ?_)
  cases op <;> simp only [binT, Option.some.injEq, reduceCtorEq] at hv <;> subst hv <;>
    simp [eqGuard, binOp, Op.stringOp]

theorem pureS_concat {x y : Operand} {yt : TypeId} {a b : ByteArray} (hx : opv F x = some (.string a)) (hy : opv F y = some (.string b)) (hl : ((a.size + b.size : Nat) : Int) ≤ IntKind.i64.max) :
    pureS P ⟨d, .binOp .add T x y yt, ty, p, af, g⟩ F (do pure (.value (← (do eqGuard .add T x y (.string a) (.string b); binOp .add T (.string a) (.string b))))) (.string (a ++ b)) := by
  refine pureS_of (fun t hF => by simp only [execOp, opv_eval hF hx, opv_eval hF hy]) (fun w => ?_)
  have hl' : ¬ ((a.size + b.size : Nat) : Int) > IntKind.i64.max := by omega
  simp only [eqGuard, binOp, Op.stringOp]
  rw [if_neg hl']
  simp

end plain
end Go.Am
