/-
An evaluator over values and memory by names.
-/
import Derived.Test.YtlogogdfmcdpfaaGreatDoorWd
set_option linter.all false
namespace Go.Am
open Go

abbrev RelB := Nat → Nat → Nat → Prop

def bigU : Nat := 4611686018427387904

def flatB : Value → Bool
  | .bool _ => true
  | .int _ _ => true
  | .float _ _ => true
  | .string _ => true
  | .pointer none => true
  | .slice none _ _ => true
  | .map none => true
  | .nilFunc => true
  | .nilIface => true
  | _ => false

mutual
inductive VR (R : RelB) : Value → Value → Prop
  | any (v : Value) (h : v.oneCell' = true) : VR R (.chan none) v
  | flat (v : Value) (h : flatB v = true) : VR R v v
  | ptr {b o b' κ : Nat} (h : R b b' κ) : VR R (.pointer (some ⟨b, o, none⟩)) (.pointer (some ⟨b', o, none⟩))
  | slice {b o l c b' κ : Nat} (h : R b b' κ) (hc : c < bigU) : VR R (.slice (some ⟨b, o, none⟩) l c) (.slice (some ⟨b', o, none⟩) l c)
  | sliceU {b o l k b' κ : Nat} (h : R b b' κ) (hk : l + k ≤ κ) : VR R (.slice (some ⟨b, o, none⟩) l (bigU + k)) (.slice (some ⟨b', o, none⟩) l (κ - k))
  | sliceE {b o o' c c' b' κ : Nat} (h : R b b' κ) : VR R (.slice (some ⟨b, o, some 0⟩) 0 c) (.slice (some ⟨b', o', none⟩) 0 c')
  | map {b b' κ : Nat} (h : R b b' κ) : VR R (.map (some b)) (.map (some b'))
  | capv {b b' κ k : Nat} (h : R b b' κ) (hk : k ≤ κ) : VR R (.complex .f64 b k) (.int .i64 ((κ - k : Nat) : Int))
  | func {f : Nat} {fs cs fs' cs' : Array Value} (h1 : VL R fs.toList fs'.toList) (h2 : VL R cs.toList cs'.toList) : VR R (.func (.func f) fs cs) (.func (.func f) fs' cs')
  | yield {l l' κ : Nat} (h : R l l' κ) : VR R (.func (.yield l) #[] #[]) (.func (.yield l') #[] #[])
  | agg {a b : Array Value} (h : VL R a.toList b.toList) : VR R (.agg a) (.agg b)
  | tuple {a b : Array Value} (h : VL R a.toList b.toList) : VR R (.tuple a) (.tuple b)
  | iface {t : TypeId} {v u : Value} (h : VR R v u) : VR R (.iface t v) (.iface t u)
inductive VL (R : RelB) : List Value → List Value → Prop
  | nil : VL R [] []
  | cons {v u : Value} {vs us : List Value} (h : VR R v u) (hs : VL R vs us) : VL R (v :: vs) (u :: us)
end

section rel
variable {R R' : RelB}

theorem VR.mono (h : ∀ a b c, R a b c → R' a b c) {v u : Value} (hv : VR R v u) : VR R' v u :=
  VR.rec (motive_1 := fun v u _ => VR R' v u) (motive_2 := fun vs us _ => VL R' vs us)
    (fun v h => .any v h) (fun v h => .flat v h) (fun hr => .ptr (h _ _ _ hr)) (fun hr hc => .slice (h _ _ _ hr) hc) (fun hr hk => .sliceU (h _ _ _ hr) hk) (fun hr => .sliceE (h _ _ _ hr)) (fun hr => .map (h _ _ _ hr)) (fun hr hk => .capv (h _ _ _ hr) hk)
    (fun _ _ a b => .func a b) (fun hr => .yield (h _ _ _ hr)) (fun _ a => .agg a) (fun _ a => .tuple a) (fun _ a => .iface a) .nil (fun _ _ a b => .cons a b) hv

theorem VL.mono (h : ∀ a b c, R a b c → R' a b c) {vs us : List Value} (hv : VL R vs us) : VL R' vs us := by
  induction vs generalizing us with
  | nil => cases hv; exact .nil
  | cons v vs ih => cases hv with | cons h1 h2 => exact .cons (h1.mono h) (ih h2)

theorem VR.flat_eq {v u : Value} (hf : flatB v = true) (h : VR R v u) : u = v := by
  cases h <;> first | rfl | (simp [flatB] at hf)

theorem VR.bool {b : Bool} {u : Value} (h : VR R (.bool b) u) : u = .bool b := h.flat_eq rfl
theorem VR.int {k : IntKind} {n : Int} {u : Value} (h : VR R (.int k n) u) : u = .int k n := h.flat_eq rfl
theorem VR.string {s : ByteArray} {u : Value} (h : VR R (.string s) u) : u = .string s := h.flat_eq rfl

theorem VR.ptr_inv {b o : Nat} {u : Value} (h : VR R (.pointer (some ⟨b, o, none⟩)) u) : ∃ b' κ, R b b' κ ∧ u = .pointer (some ⟨b', o, none⟩) := by
  cases h with
  | flat _ hf => simp [flatB] at hf
  | ptr h => exact ⟨_, _, h, rfl⟩

theorem VR.slice_inv {b o l c : Nat} {u : Value} (h : VR R (.slice (some ⟨b, o, none⟩) l c) u) :
    ∃ b' κ c', R b b' κ ∧ u = .slice (some ⟨b', o, none⟩) l c' ∧ ((c < bigU ∧ c' = c) ∨ ∃ k, c = bigU + k ∧ l + k ≤ κ ∧ c' = κ - k) := by
  cases h with
  | flat _ hf => simp [flatB] at hf
  | slice h hc => exact ⟨_, _, _, h, rfl, .inl ⟨hc, rfl⟩⟩
  | sliceU h hk => exact ⟨_, _, _, h, rfl, .inr ⟨_, rfl, hk, rfl⟩⟩

theorem VR.sliceE_inv {b o l c : Nat} {u : Value} (h : VR R (.slice (some ⟨b, o, some 0⟩) l c) u) : l = 0 ∧ ∃ b' κ o' c', R b b' κ ∧ u = .slice (some ⟨b', o', none⟩) 0 c' := by
  cases h with
  | flat _ hf => simp [flatB] at hf
  | sliceE h => exact ⟨rfl, _, _, _, _, h, rfl⟩

theorem VR.capv_inv {b k : Nat} {u : Value} (h : VR R (.complex .f64 b k) u) : ∃ b' κ, R b b' κ ∧ k ≤ κ ∧ u = .int .i64 ((κ - k : Nat) : Int) := by
  cases h with
  | flat _ hf => simp [flatB] at hf
  | capv h hk => exact ⟨_, _, h, hk, rfl⟩

theorem VR.map_inv {b : Nat} {u : Value} (h : VR R (.map (some b)) u) : ∃ b' κ, R b b' κ ∧ u = .map (some b') := by
  cases h with
  | flat _ hf => simp [flatB] at hf
  | map h => exact ⟨_, _, h, rfl⟩

theorem VR.agg_inv {a : Array Value} {u : Value} (h : VR R (.agg a) u) : ∃ b, u = .agg b ∧ VL R a.toList b.toList := by
  cases h with
  | flat _ hf => simp [flatB] at hf
  | agg h => exact ⟨_, rfl, h⟩

theorem VR.tuple_inv {a : Array Value} {u : Value} (h : VR R (.tuple a) u) : ∃ b, u = .tuple b ∧ VL R a.toList b.toList := by
  cases h with
  | flat _ hf => simp [flatB] at hf
  | tuple h => exact ⟨_, rfl, h⟩

theorem VR.func_inv {f : Nat} {fs cs : Array Value} {u : Value} (h : VR R (.func (.func f) fs cs) u) : ∃ fs' cs', u = .func (.func f) fs' cs' ∧ VL R fs.toList fs'.toList ∧ VL R cs.toList cs'.toList := by
  cases h with
  | flat _ hf => simp [flatB] at hf
  | func h1 h2 => exact ⟨_, _, rfl, h1, h2⟩

theorem VR.yield_inv {l : Nat} {fs cs : Array Value} {u : Value} (h : VR R (.func (.yield l) fs cs) u) : ∃ l' κ, R l l' κ ∧ fs = #[] ∧ cs = #[] ∧ u = .func (.yield l') #[] #[] := by
  cases h with
  | flat _ hf => simp [flatB] at hf
  | yield h => exact ⟨_, _, h, rfl, rfl, rfl⟩

theorem VR.oneCell {v u : Value} (h : VR R v u) (h1 : v.oneCell' = true) : u.oneCell' = true := by
  cases h <;> first | rfl | assumption | (simp [Value.oneCell'] at h1)

theorem VL.length {vs us : List Value} (h : VL R vs us) : vs.length = us.length := by
  induction vs generalizing us with
  | nil => cases h; rfl
  | cons v vs ih => cases h with | cons h1 h2 => simp [ih h2]

theorem VL.get {vs us : List Value} (h : VL R vs us) {i : Nat} {v : Value} (hv : vs[i]? = some v) : ∃ u, us[i]? = some u ∧ VR R v u := by
  induction vs generalizing us i with
  | nil => simp at hv
  | cons w vs ih =>
    cases h with
    | cons h1 h2 =>
      cases i with
      | zero => simp only [List.getElem?_cons_zero, Option.some.injEq] at hv; subst hv; exact ⟨_, rfl, h1⟩
      | succ i => exact ih h2 (by simpa using hv)

theorem VL.append {vs us ws xs : List Value} (h : VL R vs us) (k : VL R ws xs) : VL R (vs ++ ws) (us ++ xs) := by
  induction vs generalizing us with
  | nil => cases h; exact k
  | cons v vs ih => cases h with | cons h1 h2 => exact .cons h1 (ih h2)

theorem VL.take {vs us : List Value} (h : VL R vs us) (n : Nat) : VL R (vs.take n) (us.take n) := by
  induction vs generalizing us n with
  | nil => cases h; simp only [List.take_nil]; exact .nil
  | cons v vs ih =>
    cases h with
    | cons h1 h2 =>
      cases n with
      | zero => simp only [List.take_zero]; exact .nil
      | succ n => simp only [List.take_succ_cons]; exact .cons h1 (ih h2 n)

theorem VL.drop {vs us : List Value} (h : VL R vs us) (n : Nat) : VL R (vs.drop n) (us.drop n) := by
  induction vs generalizing us n with
  | nil => cases h; simp only [List.drop_nil]; exact .nil
  | cons v vs ih =>
    cases h with
    | cons h1 h2 =>
      cases n with
      | zero => simp only [List.drop_zero]; exact .cons h1 h2
      | succ n => simp only [List.drop_succ_cons]; exact ih h2 n

theorem VL.splice {vs us cs ds : List Value} (h : VL R vs us) (k : VL R cs ds) (n : Nat) : VL R (splice vs n cs) (splice us n ds) := by
  induction vs generalizing us cs ds n with
  | nil =>
    cases h
    cases k with
    | nil => simp only [Go.Am.splice]; exact .nil
    | cons _ _ => simp only [Go.Am.splice]; exact .nil
  | cons v vs ih =>
    cases h with
    | cons h1 h2 =>
      cases k with
      | nil => simp only [Go.Am.splice]; exact .cons h1 h2
      | cons k1 k2 =>
        cases n with
        | zero => simp only [Go.Am.splice]; exact .cons k1 (ih h2 k2 0)
        | succ n => simp only [Go.Am.splice]; exact .cons h1 (ih h2 (.cons k1 k2) n)

theorem VL.rep {z y : List Value} (h : VL R z y) (n : Nat) : VL R (rep z n) (rep y n) := by
  induction n with
  | zero => exact .nil
  | succ n ih => exact h.append ih

theorem VL.refl_flat {vs : List Value} (h : vs.all flatB = true) : VL R vs vs := by
  induction vs with
  | nil => exact .nil
  | cons v vs ih =>
    simp only [List.all_cons, Bool.and_eq_true] at h
    exact .cons (.flat v h.1) (ih h.2)

theorem VL.all_one {vs us : List Value} (h : VL R vs us) (h1 : vs.all (·.oneCell') = true) : us.all (·.oneCell') = true := by
  induction vs generalizing us with
  | nil => cases h; rfl
  | cons v vs ih =>
    cases h with
    | cons k1 k2 =>
      simp only [List.all_cons, Bool.and_eq_true] at h1 ⊢
      exact ⟨k1.oneCell h1.1, ih k2 h1.2⟩

theorem VR.cells {v u : Value} (h : VR R v u) : VL R (valCells v) (valCells u) := by
  cases h with
  | any _ h =>
    have : valCells u = [u] := by cases u <;> first | rfl | (simp [Value.oneCell'] at h)
    rw [this]; exact .cons (.any _ h) .nil
  | flat _ h =>
    have : valCells v = [v] := by cases v <;> first | rfl | (simp [flatB] at h)
    rw [this]; exact .cons (.flat _ h) .nil
  | ptr h => exact .cons (.ptr h) .nil
  | slice h hc => exact .cons (.slice h hc) .nil
  | sliceU h hk => exact .cons (.sliceU h hk) .nil
  | sliceE h => exact .cons (.sliceE h) .nil
  | map h => exact .cons (.map h) .nil
  | capv h hk => exact .cons (.capv h hk) .nil
  | func h1 h2 => exact .cons (.func h1 h2) .nil
  | yield h => exact .cons (.yield h) .nil
  | agg h => exact h
  | tuple h => exact .cons (.tuple h) .nil
  | iface h => exact .cons (.iface h) .nil

theorem VR.undef : VR R undef undef := .tuple .nil

/-- what may be said again -/
def exactB : Value → Bool
  | .bool _ => true
  | .int _ _ => true
  | .string _ => true
  | .pointer (some ⟨_, _, none⟩) => true
  | .pointer none => true
  | .slice none _ _ => true
  | .slice (some ⟨_, _, none⟩) _ _ => true
  | .map _ => true
  | .nilFunc => true
  | .nilIface => true
  | _ => false

theorem VR.exact {v u w : Value} (he : exactB v = true) (hf : ∀ a b c b' c', R a b c → R a b' c' → b = b' ∧ c = c') (h : VR R v u) (k : VR R v w) : u = w := by
  cases v with
  | pointer a =>
    cases a with
    | none => rw [h.flat_eq rfl, k.flat_eq rfl]
    | some a =>
      obtain ⟨b, o, s⟩ := a
      cases s with
      | some s => simp [exactB] at he
      | none =>
        obtain ⟨b1, κ1, h1, rfl⟩ := h.ptr_inv
        obtain ⟨b2, κ2, h2, rfl⟩ := k.ptr_inv
        rw [(hf _ _ _ _ _ h1 h2).1]
  | slice a l c =>
    cases a with
    | none => rw [h.flat_eq rfl, k.flat_eq rfl]
    | some a =>
      obtain ⟨b, o, s⟩ := a
      cases s with
      | some s => simp [exactB] at he
      | none =>
        obtain ⟨b1, κ1, c1, h1, rfl, hc1⟩ := h.slice_inv
        obtain ⟨b2, κ2, c2, h2, rfl, hc2⟩ := k.slice_inv
        obtain ⟨rfl, rfl⟩ := hf _ _ _ _ _ h1 h2
        rcases hc1 with ⟨_, rfl⟩ | ⟨k, hk, _, rfl⟩
        · rcases hc2 with ⟨_, rfl⟩ | ⟨k, hk, _⟩
          · rfl
          · omega
        · rcases hc2 with ⟨_, rfl⟩ | ⟨k2, hk2, _, rfl⟩
          · omega
          · have e : κ1 - k2 = κ1 - _ := congrArg (κ1 - ·) (Nat.add_left_cancel (hk2.symm.trans hk))
            rw [e]
  | map r =>
    cases r with
    | none => rw [h.flat_eq rfl, k.flat_eq rfl]
    | some r =>
      obtain ⟨b1, κ1, h1, rfl⟩ := h.map_inv
      obtain ⟨b2, κ2, h2, rfl⟩ := k.map_inv
      rw [(hf _ _ _ _ _ h1 h2).1]
  | bool _ => rw [h.flat_eq rfl, k.flat_eq rfl]
  | int _ _ => rw [h.flat_eq rfl, k.flat_eq rfl]
  | string _ => rw [h.flat_eq rfl, k.flat_eq rfl]
  | nilFunc => rw [h.flat_eq rfl, k.flat_eq rfl]
  | nilIface => rw [h.flat_eq rfl, k.flat_eq rfl]
  | _ => simp [exactB] at he

theorem VL.exact_of {p : Value → Bool} (hp : ∀ {v u w : Value}, p v = true → VR R v u → VR R v w → u = w) {vs us ws : List Value} (he : vs.all p = true) (h : VL R vs us) (k : VL R vs ws) : us = ws := by
  induction vs generalizing us ws with
  | nil => cases h; cases k; rfl
  | cons v vs ih =>
    simp only [List.all_cons, Bool.and_eq_true] at he
    cases h with | cons h1 h2 => cases k with | cons k1 k2 => rw [hp he.1 h1 k1, ih he.2 h2 k2]

def exact1 : Value → Bool
  | .agg a => a.toList.all exactB
  | v => exactB v
def exact2 : Value → Bool
  | .tuple a => a.toList.all exact1
  | v => exact1 v

theorem VR.exact1 {v u w : Value} (he : exact1 v = true) (hf : ∀ a b c b' c', R a b c → R a b' c' → b = b' ∧ c = c') (h : VR R v u) (k : VR R v w) : u = w := by
  cases v with
  | agg a =>
    obtain ⟨b, rfl, h1⟩ := h.agg_inv
    obtain ⟨c, rfl, k1⟩ := k.agg_inv
    have := VL.exact_of (p := exactB) (fun e a b => VR.exact e hf a b) he h1 k1
    rw [Array.ext' this]
  | _ => exact VR.exact (by simpa only [Go.Am.exact1] using he) hf h k

theorem VR.exact2 {v u w : Value} (he : exact2 v = true) (hf : ∀ a b c b' c', R a b c → R a b' c' → b = b' ∧ c = c') (h : VR R v u) (k : VR R v w) : u = w := by
  cases v with
  | tuple a =>
    obtain ⟨b, rfl, h1⟩ := h.tuple_inv
    obtain ⟨c, rfl, k1⟩ := k.tuple_inv
    have := VL.exact_of (p := Go.Am.exact1) (fun e a b => VR.exact1 e hf a b) he h1 k1
    rw [Array.ext' this]
  | _ => exact VR.exact1 (by simpa only [Go.Am.exact2] using he) hf h k

end rel

/-! Trees. -/

inductive BT (α : Type) where
  | leaf
  | node (v : Option α) (l r : BT α)

def BT.get {α : Type} : BT α → Nat → Option α
  | .leaf, _ => none
  | .node v l r, i => bif Nat.beq i 0 then v else bif Nat.beq (i % 2) 1 then l.get (i / 2) else r.get (i / 2 - 1)

def BT.put {α : Type} : Nat → BT α → Nat → Option α → BT α
  | 0, _, _, _ => .leaf
  | f + 1, .leaf, i, x => bif Nat.beq i 0 then .node x .leaf .leaf else bif Nat.beq (i % 2) 1 then .node none (BT.put f .leaf (i / 2) x) .leaf else .node none .leaf (BT.put f .leaf (i / 2 - 1) x)
  | f + 1, .node v l r, i, x => bif Nat.beq i 0 then .node x l r else bif Nat.beq (i % 2) 1 then .node v (BT.put f l (i / 2) x) r else .node v l (BT.put f r (i / 2 - 1) x)

def BT.putK {α β : Type} : Nat → BT α → Nat → Option α → (BT α → β) → β
  | 0, _, _, _, k => k .leaf
  | f + 1, .leaf, i, x, k => bif Nat.beq i 0 then k (.node x .leaf .leaf) else bif Nat.beq (i % 2) 1 then BT.putK f .leaf (i / 2) x (fun t => k (.node none t .leaf)) else BT.putK f .leaf (i / 2 - 1) x (fun t => k (.node none .leaf t))
  | f + 1, .node v l r, i, x, k => bif Nat.beq i 0 then k (.node x l r) else bif Nat.beq (i % 2) 1 then BT.putK f l (i / 2) x (fun t => k (.node v t r)) else BT.putK f r (i / 2 - 1) x (fun t => k (.node v l t))

theorem BT.putK_eq {α β : Type} : ∀ (f : Nat) (t : BT α) (i : Nat) (x : Option α) (k : BT α → β), BT.putK f t i x k = k (BT.put f t i x) := by
  intro f
  induction f with
  | zero => intros; rfl
  | succ f ih =>
    intro t i x k
    cases t with
    | leaf =>
      simp only [BT.putK, BT.put]
      cases Nat.beq i 0 with
      | true => rfl
      | false => cases Nat.beq (i % 2) 1 <;> simp only [cond_true, cond_false, ih]
    | node v l r =>
      simp only [BT.putK, BT.put]
      cases Nat.beq i 0 with
      | true => rfl
      | false => cases Nat.beq (i % 2) 1 <;> simp only [cond_true, cond_false, ih]

theorem nbeq_self (n : Nat) : Nat.beq n n = true := Nat.beq_refl n

theorem BT.get_leaf {α : Type} (j : Nat) : BT.get (α := α) .leaf j = none := rfl

theorem BT.get_put {α : Type} : ∀ (f : Nat) (t : BT α) (i j : Nat) (x : Option α) (y : α), (BT.put f t i x).get j = some y → (j = i ∧ x = some y) ∨ (j ≠ i ∧ t.get j = some y) := by
  intro f
  induction f with
  | zero => intro t i j x y h; simp [BT.put, BT.get] at h
  | succ f ih =>
    have key : ∀ (v : Option α) (l r : BT α) (i j : Nat) (x : Option α) (y : α), (bif Nat.beq i 0 then BT.node x l r else bif Nat.beq (i % 2) 1 then .node v (BT.put f l (i / 2) x) r else .node v l (BT.put f r (i / 2 - 1) x)).get j = some y →
        (j = i ∧ x = some y) ∨ (j ≠ i ∧ (BT.node v l r).get j = some y) := by
      intro v l r i j x y h
      rcases Nat.eq_zero_or_pos i with hi | hi
      · subst hi
        simp only [nbeq_self, cond_true] at h
        rcases Nat.eq_zero_or_pos j with hj | hj
        · subst hj; simp only [BT.get, nbeq_self, cond_true] at h; exact .inl ⟨rfl, h⟩
        · have h0 : Nat.beq j 0 = false := by cases hb : Nat.beq j 0 with
            | false => rfl
            | true => have := Nat.eq_of_beq_eq_true hb; omega
          simp only [BT.get, h0, cond_false] at h ⊢
          exact .inr ⟨by omega, h⟩
      · have h0 : Nat.beq i 0 = false := by cases hb : Nat.beq i 0 with
          | false => rfl
          | true => have := Nat.eq_of_beq_eq_true hb; omega
        rw [h0, cond_false] at h
        rcases Nat.eq_zero_or_pos j with hj | hj
        · subst hj
          refine .inr ⟨by omega, ?_⟩
          cases hb : Nat.beq (i % 2) 1 <;> rw [hb] at h <;> simpa [BT.get] using h
        · have hj0 : Nat.beq j 0 = false := by cases hb : Nat.beq j 0 with
            | false => rfl
            | true => have := Nat.eq_of_beq_eq_true hb; omega
          cases hb : Nat.beq (i % 2) 1 with
          | true =>
            rw [hb, cond_true] at h
            have hi2 := Nat.eq_of_beq_eq_true hb
            simp only [BT.get, hj0, cond_false] at h ⊢
            cases hb2 : Nat.beq (j % 2) 1 with
            | true =>
              rw [hb2, cond_true] at h
              have hj2 := Nat.eq_of_beq_eq_true hb2
              rcases ih _ _ _ _ _ h with ⟨h1, h2⟩ | ⟨h1, h2⟩
              · exact .inl ⟨by omega, h2⟩
              · exact .inr ⟨by omega, h2⟩
            | false =>
              rw [hb2, cond_false] at h
              refine .inr ⟨?_, h⟩
              intro hji; subst hji; rw [hb] at hb2; cases hb2
          | false =>
            rw [hb, cond_false] at h
            simp only [BT.get, hj0, cond_false] at h ⊢
            cases hb2 : Nat.beq (j % 2) 1 with
            | true =>
              rw [hb2, cond_true] at h
              refine .inr ⟨?_, h⟩
              intro hji; subst hji; rw [hb] at hb2; cases hb2
            | false =>
              rw [hb2, cond_false] at h
              have hi2 : i % 2 ≠ 1 := fun h => by rw [h] at hb; cases hb
              have hj2 : j % 2 ≠ 1 := fun h => by rw [h] at hb2; cases hb2
              rcases ih _ _ _ _ _ h with ⟨h1, h2⟩ | ⟨h1, h2⟩
              · exact .inl ⟨by omega, h2⟩
              · exact .inr ⟨by omega, h2⟩
    intro t i j x y h
    cases t with
    | node v l r => exact key v l r i j x y h
    | leaf =>
      have h' : (bif Nat.beq i 0 then BT.node x (.leaf : BT α) .leaf else bif Nat.beq (i % 2) 1 then .node none (BT.put f .leaf (i / 2) x) .leaf else .node none .leaf (BT.put f .leaf (i / 2 - 1) x)).get j = some y := by
        simpa only [BT.put] using h
      rcases key none .leaf .leaf i j x y h' with h1 | ⟨h1, h2⟩
      · exact .inl h1
      · simp only [BT.get] at h2
        cases h3 : Nat.beq j 0 <;> rw [h3] at h2
        · cases h4 : Nat.beq (j % 2) 1 <;> rw [h4] at h2 <;> simp at h2
        · simp at h2

/-! Frames. -/

def FR (R : RelB) (N : Nat) (F : BT Value) (t : Array Value) : Prop :=
  t.size = N ∧ ∀ i v, F.get i = some v → ∃ u, t[i]? = some u ∧ VR R v u

theorem FR.mono {R R' : RelB} (h : ∀ a b c, R a b c → R' a b c) {N : Nat} {F : BT Value} {t : Array Value} (hf : FR R N F t) : FR R' N F t :=
  ⟨hf.1, fun i v hv => let ⟨u, h1, h2⟩ := hf.2 i v hv; ⟨u, h1, h2.mono h⟩⟩

def fputD (F : BT Value) (d : Option Tmp) (v : Value) : BT Value :=
  match d with
  | some d => BT.put 32 F d (some v)
  | none => F

theorem FR.put {R : RelB} {N : Nat} {F : BT Value} {t : Array Value} (hf : FR R N F t) {d : Option Tmp} (hd : dstOk N d = true) {v u : Value} (h : VR R v u) : FR R N (fputD F d v) (putT t d u) := by
  refine ⟨by rw [size_putT]; exact hf.1, ?_⟩
  cases d with
  | none => exact hf.2
  | some d =>
    intro i w hi
    simp only [dstOk, Nat.blt_eq] at hd
    rcases BT.get_put _ _ _ _ _ _ hi with ⟨rfl, h2⟩ | ⟨h1, h2⟩
    · simp only [Option.some.injEq] at h2
      subst h2
      refine ⟨u, ?_, h⟩
      have := hf.1
      simp only [putT]
      rw [Array.getElem?_setIfInBounds_self_of_lt (by omega)]
    · obtain ⟨u', h3, h4⟩ := hf.2 i w h2
      refine ⟨u', ?_, h4⟩
      simp only [putT]
      rw [Array.getElem?_setIfInBounds_ne (Ne.symm h1)]; exact h3

/-! What a block holds. -/

inductive XO where
  | cells (vs : List Value) (es lo hi : Nat) (op wr : Bool)
  | map (l : List Ent) (c : Nat)
  | miter (m : Option Nat) (since : Nat) (seen : List Nat) (last : Nat)
  | siter (s : ByteArray) (pos : Nat)
  | loop (st : LoopState) (pend : Option Code) (f : FuncId) (N : Nat) (F : BT Value) (ps : Array Tmp) (assign body : Code) (dfs : Nat)
  | dfr (shut : Bool)

inductive EL (R : RelB) : List Ent → List Ent → Prop
  | nil : EL R [] []
  | cons {k : BS} {v u : Value} {n : Nat} {l l' : List Ent} (h : VR R v u) (hs : EL R l l') : EL R ((k, v, n) :: l) ((k, u, n) :: l')

theorem EL.mono {R R' : RelB} (h : ∀ a b c, R a b c → R' a b c) {l l' : List Ent} (hl : EL R l l') : EL R' l l' := by
  induction hl with
  | nil => exact .nil
  | cons hv _ ih => exact .cons (hv.mono h) ih

def OR (R : RelB) (κ : Nat) : XO → AObj → Prop
  | .cells vs es lo hi op wr, o => ∃ us opr wr', o = .cells us opr wr' ∧ (wr = true → wr' = true) ∧ vs.length ≤ us.length ∧ us.all (·.oneCell') = true ∧ VL R vs (us.take vs.length) ∧ (op = false → us.length = vs.length) ∧ (op = true → us.length = κ * es ∧ lo ≤ κ ∧ (hi = 0 ∨ κ < hi))
  | .map l c, o => ∃ l', o = .obj (mapObj l' c) true ∧ EL R l l'
  | .miter m since seen last, o => ∃ m', o = .obj (.mapIter m' since seen.toArray last) true ∧ ((m = none ∧ m' = none) ∨ ∃ b b' k, m = some b ∧ m' = some b' ∧ R b b' k)
  | .siter s pos, o => o = .obj (.stringIter s pos) true
  | .loop st pend _ N F ps assign body dfs, o => ∃ f t d, o = .obj (.loop { state := st, pending := pend, fn := f, tmps := t, params := ps, assign, body, defers := d }) true ∧ FR R N F t ∧ ∃ k, R dfs d k
  | .dfr shut, o => o = .obj (.deferred (if shut then none else some [])) true

theorem OR.mono {R R' : RelB} (h : ∀ a b c, R a b c → R' a b c) {κ : Nat} {x : XO} {o : AObj} (ho : OR R κ x o) : OR R' κ x o := by
  cases x with
  | cells vs es lo hi op wr => obtain ⟨us, opr, wr', h1, h2, h3, h4, h5, h6⟩ := ho; exact ⟨us, opr, wr', h1, h2, h3, h4, h5.mono h, h6⟩
  | map l c => obtain ⟨l', h1, h2⟩ := ho; exact ⟨l', h1, h2.mono h⟩
  | miter m since seen last =>
    obtain ⟨m', h1, h2⟩ := ho
    refine ⟨m', h1, ?_⟩
    rcases h2 with h2 | ⟨b, b', k, h3, h4, h5⟩
    · exact .inl h2
    · exact .inr ⟨b, b', k, h3, h4, h _ _ _ h5⟩
  | siter s pos => exact ho
  | loop st pend f N F ps assign body dfs => obtain ⟨f, t, d, h1, h2, k, h3⟩ := ho; exact ⟨f, t, d, h1, h2.mono h, k, h _ _ _ h3⟩
  | dfr shut => exact ho

structure HX (W0 : AHeap) (R : RelB) (n : Nat) (H : BT XO) (A : AHeap) : Prop where
  lt : ∀ b b' κ, R b b' κ → b < n ∧ b' < A.next
  fn : ∀ b b' κ c' κ', R b b' κ → R b c' κ' → b' = c' ∧ κ = κ'
  inj : ∀ b c b' κ κ' x y, H.get b = some x → H.get c = some y → R b b' κ → R c b' κ' → b = c
  ex : ∀ b x, H.get b = some x → ∃ b' κ, R b b' κ ∧ OR R κ x (A.get b')
  fr : ∀ b', b' < W0.next → (∀ b κ, ¬ R b b' κ) → A.get b' = W0.get b'
  le : W0.next ≤ A.next
  ge : ∀ b b' κ, R b b' κ → W0.next ≤ b'

theorem HX.at {W0 : AHeap} {R : RelB} {n : Nat} {H : BT XO} {A : AHeap} (h : HX W0 R n H A) {b : Nat} {x : XO} (hb : H.get b = some x) {b' κ : Nat} (hr : R b b' κ) : OR R κ x (A.get b') := by
  obtain ⟨c, κ', h1, h2⟩ := h.ex b x hb
  obtain ⟨rfl, rfl⟩ := h.fn _ _ _ _ _ hr h1
  exact h2

/-- nothing that was there has turned -/
theorem HX.keep {W0 : AHeap} {R : RelB} {n : Nat} {H : BT XO} {A B : AHeap} (h : HX W0 R n H A) (hn : A.next ≤ B.next) (hg : ∀ b, b < A.next → B.get b = A.get b) : HX W0 R n H B :=
  ⟨fun b b' κ hr => ⟨(h.lt _ _ _ hr).1, Nat.lt_of_lt_of_le (h.lt _ _ _ hr).2 hn⟩, h.fn, h.inj,
    fun b x hx => let ⟨b', κ, h1, h2⟩ := h.ex b x hx; ⟨b', κ, h1, by rw [hg _ (h.lt _ _ _ h1).2]; exact h2⟩,
    fun b' hb hno => by rw [hg _ (Nat.lt_of_lt_of_le hb h.le)]; exact h.fr b' hb hno, Nat.le_trans h.le hn, h.ge⟩

/-- a block that was there has turned -/
theorem HX.set {W0 : AHeap} {R : RelB} {n : Nat} {H : BT XO} {A B : AHeap} (h : HX W0 R n H A) {b : Nat} {x x' : XO} (hb : H.get b = some x) {b' κ : Nat} (hr : R b b' κ) (hn : A.next ≤ B.next)
    (hg : ∀ c, c < A.next → c ≠ b' → B.get c = A.get c) (ho : OR R κ x' (B.get b')) : HX W0 R n (BT.put 32 H b (some x')) B := by
  refine ⟨fun b b' κ hr => ⟨(h.lt _ _ _ hr).1, Nat.lt_of_lt_of_le (h.lt _ _ _ hr).2 hn⟩, h.fn, ?_, ?_, ?_, Nat.le_trans h.le hn, h.ge⟩
  · intro c d c' κ1 κ2 y z hy hz hc hd
    have hy' : ∃ y, H.get c = some y := by
      rcases BT.get_put _ _ _ _ _ _ hy with ⟨rfl, _⟩ | ⟨_, h2⟩
      · exact ⟨x, hb⟩
      · exact ⟨y, h2⟩
    have hz' : ∃ z, H.get d = some z := by
      rcases BT.get_put _ _ _ _ _ _ hz with ⟨rfl, _⟩ | ⟨_, h2⟩
      · exact ⟨x, hb⟩
      · exact ⟨z, h2⟩
    obtain ⟨y', hy'⟩ := hy'
    obtain ⟨z', hz'⟩ := hz'
    exact h.inj _ _ _ _ _ _ _ hy' hz' hc hd
  · intro c y hy
    rcases BT.get_put _ _ _ _ _ _ hy with ⟨rfl, h2⟩ | ⟨h1, h2⟩
    · simp only [Option.some.injEq] at h2; subst h2
      exact ⟨b', κ, hr, ho⟩
    · obtain ⟨c', κ', h3, h4⟩ := h.ex c y h2
      refine ⟨c', κ', h3, ?_⟩
      rw [hg c' (h.lt _ _ _ h3).2 ?_]
      · exact h4
      · intro he; subst he
        exact h1 (h.inj _ _ _ _ _ _ _ h2 hb h3 hr)
  · intro c hc hno
    have hne : c ≠ b' := fun he => by subst he; exact hno _ _ hr
    rw [hg c (Nat.lt_of_lt_of_le hc h.le) hne]
    exact h.fr c hc hno

def addR (R : RelB) (n b' κ : Nat) : RelB := fun a b c => R a b c ∨ (a = n ∧ b = b' ∧ c = κ)

theorem addR_sub {R : RelB} {n b' κ : Nat} : ∀ a b c, R a b c → addR R n b' κ a b c := fun _ _ _ h => .inl h
theorem addR_new {R : RelB} {n b' κ : Nat} : addR R n b' κ n b' κ := .inr ⟨rfl, rfl, rfl⟩

/-- a new block -/
theorem HX.new {W0 : AHeap} {R : RelB} {n : Nat} {H : BT XO} {A B : AHeap} (h : HX W0 R n H A) {x : XO} {b' κ : Nat} (hb : A.next ≤ b') (hb2 : b' < B.next)
    (hg : ∀ c, c < A.next → B.get c = A.get c) (ho : OR (addR R n b' κ) κ x (B.get b')) : HX W0 (addR R n b' κ) (n + 1) (BT.put 32 H n (some x)) B := by
  have hn : A.next ≤ B.next := Nat.le_of_lt (Nat.lt_of_le_of_lt hb hb2)
  have hlt : ∀ {c : Nat} {y : XO}, H.get c = some y → c < n := fun hy => let ⟨_, _, h1, _⟩ := h.ex _ _ hy; (h.lt _ _ _ h1).1
  refine ⟨?_, ?_, ?_, ?_, ?_, Nat.le_trans h.le hn, fun a b c hr => ?_⟩
  · intro a b c hr
    rcases hr with hr | ⟨rfl, rfl, rfl⟩
    · exact ⟨Nat.lt_succ_of_lt (h.lt _ _ _ hr).1, Nat.lt_of_lt_of_le (h.lt _ _ _ hr).2 hn⟩
    · exact ⟨Nat.lt_succ_self _, hb2⟩
  · intro a b c d e hr hr'
    rcases hr with hr | ⟨rfl, rfl, rfl⟩ <;> rcases hr' with hr' | ⟨h1, h2, h3⟩
    · exact h.fn _ _ _ _ _ hr hr'
    · subst h1; exact absurd (h.lt _ _ _ hr).1 (Nat.lt_irrefl _)
    · exact absurd (h.lt _ _ _ hr').1 (Nat.lt_irrefl _)
    · exact ⟨h2.symm, h3.symm⟩
  · intro c d c' κ1 κ2 y z hy hz hc hd
    rcases hc with hc | ⟨rfl, rfl, rfl⟩ <;> rcases hd with hd | ⟨h1, h2, h3⟩
    · have hy' : H.get c = some y := by
        rcases BT.get_put _ _ _ _ _ _ hy with ⟨rfl, _⟩ | ⟨_, h2⟩
        · exact absurd (h.lt _ _ _ hc).1 (Nat.lt_irrefl _)
        · exact h2
      have hz' : H.get d = some z := by
        rcases BT.get_put _ _ _ _ _ _ hz with ⟨rfl, _⟩ | ⟨_, h2⟩
        · exact absurd (h.lt _ _ _ hd).1 (Nat.lt_irrefl _)
        · exact h2
      exact h.inj _ _ _ _ _ _ _ hy' hz' hc hd
    · subst h2; exact absurd (h.lt _ _ _ hc).2 (Nat.not_lt.2 hb)
    · exact absurd (h.lt _ _ _ hd).2 (Nat.not_lt.2 hb)
    · exact h1.symm
  · intro c y hy
    rcases BT.get_put _ _ _ _ _ _ hy with ⟨rfl, h2⟩ | ⟨h1, h2⟩
    · simp only [Option.some.injEq] at h2; subst h2
      exact ⟨b', κ, addR_new, ho⟩
    · obtain ⟨c', κ', h3, h4⟩ := h.ex c y h2
      exact ⟨c', κ', .inl h3, by rw [hg c' (h.lt _ _ _ h3).2]; exact h4.mono addR_sub⟩
  · intro c hc hno
    rw [hg c (Nat.lt_of_lt_of_le hc h.le)]
    exact h.fr c hc fun b κ hr => hno b κ (.inl hr)
  · rcases hr with hr | ⟨rfl, rfl, rfl⟩
    · exact h.ge _ _ _ hr
    · exact Nat.le_trans h.le hb

/-- a block that was there goes by another name -/
theorem HX.rename {W0 : AHeap} {R : RelB} {n : Nat} {H : BT XO} {A B : AHeap} (h : HX W0 R n H A) {b : Nat} {x x' : XO} (hb : H.get b = some x) {b' κ : Nat} (hr : R b b' κ) (hn : A.next ≤ B.next)
    (hg : ∀ c, c < A.next → c ≠ b' → B.get c = A.get c) (ho : OR (addR R n b' κ) κ x' (B.get b')) : HX W0 (addR R n b' κ) (n + 1) (BT.put 32 (BT.put 32 H b none) n (some x')) B := by
  have hcase : ∀ {c : Nat} {y : XO}, (BT.put 32 (BT.put 32 H b none) n (some x')).get c = some y → (c = n ∧ y = x') ∨ (c ≠ n ∧ c ≠ b ∧ H.get c = some y) := by
    intro c y hy
    rcases BT.get_put _ _ _ _ _ _ hy with ⟨rfl, h2⟩ | ⟨h1, h2⟩
    · simp only [Option.some.injEq] at h2; exact .inl ⟨rfl, h2.symm⟩
    · rcases BT.get_put _ _ _ _ _ _ h2 with ⟨_, h3⟩ | ⟨h3, h4⟩
      · cases h3
      · exact .inr ⟨h1, h3, h4⟩
  refine ⟨?_, ?_, ?_, ?_, ?_, Nat.le_trans h.le hn, fun a b c hr => ?_⟩
  · intro a c d hr'
    rcases hr' with hr' | ⟨rfl, rfl, rfl⟩
    · exact ⟨Nat.lt_succ_of_lt (h.lt _ _ _ hr').1, Nat.lt_of_lt_of_le (h.lt _ _ _ hr').2 hn⟩
    · exact ⟨Nat.lt_succ_self _, Nat.lt_of_lt_of_le (h.lt _ _ _ hr).2 hn⟩
  · intro a c d e f hr1 hr2
    rcases hr1 with hr1 | ⟨rfl, rfl, rfl⟩ <;> rcases hr2 with hr2 | ⟨h1, h2, h3⟩
    · exact h.fn _ _ _ _ _ hr1 hr2
    · subst h1; exact absurd (h.lt _ _ _ hr1).1 (Nat.lt_irrefl _)
    · exact absurd (h.lt _ _ _ hr2).1 (Nat.lt_irrefl _)
    · exact ⟨h2.symm, h3.symm⟩
  · intro c d c' κ1 κ2 y z hy hz hc hd
    rcases hcase hy with ⟨rfl, _⟩ | ⟨h1, h2, h3⟩ <;> rcases hcase hz with ⟨rfl, _⟩ | ⟨k1, k2, k3⟩
    · rfl
    · exfalso
      rcases hd with hd | ⟨h1, _⟩
      · rcases hc with hc | ⟨_, rfl, _⟩
        · exact absurd (h.lt _ _ _ hc).1 (Nat.lt_irrefl _)
        · exact k2 (h.inj _ _ _ _ _ _ _ k3 hb hd hr)
      · exact k1 h1
    · exfalso
      rcases hc with hc | ⟨h1', _⟩
      · rcases hd with hd | ⟨_, rfl, _⟩
        · exact absurd (h.lt _ _ _ hd).1 (Nat.lt_irrefl _)
        · exact h2 (h.inj _ _ _ _ _ _ _ h3 hb hc hr)
      · exact h1 h1'
    · rcases hc with hc | ⟨h1', _⟩
      · rcases hd with hd | ⟨k1', _⟩
        · exact h.inj _ _ _ _ _ _ _ h3 k3 hc hd
        · exact absurd k1' k1
      · exact absurd h1' h1
  · intro c y hy
    rcases hcase hy with ⟨rfl, rfl⟩ | ⟨h1, h2, h3⟩
    · exact ⟨b', κ, addR_new, ho⟩
    · obtain ⟨c', κ', h4, h5⟩ := h.ex c y h3
      refine ⟨c', κ', .inl h4, ?_⟩
      rw [hg c' (h.lt _ _ _ h4).2 ?_]
      · exact h5.mono addR_sub
      · intro he; subst he
        exact h2 (h.inj _ _ _ _ _ _ _ h3 hb h4 hr)
  · intro c hc hno
    have hne : c ≠ b' := fun he => by subst he; exact hno _ _ (.inl hr)
    rw [hg c (Nat.lt_of_lt_of_le hc h.le) hne]
    exact h.fr c hc fun b κ hr => hno b κ (.inl hr)
  · rcases hr with hr' | ⟨rfl, rfl, rfl⟩
    · exact h.ge _ _ _ hr'
    · exact h.ge _ _ _ hr

/-- a name is not used any more -/
theorem HX.del {W0 : AHeap} {R : RelB} {n : Nat} {H : BT XO} {A : AHeap} (h : HX W0 R n H A) (b : Nat) : HX W0 R n (BT.put 32 H b none) A := by
  have hcase : ∀ {c : Nat} {y : XO}, (BT.put 32 H b none).get c = some y → H.get c = some y := by
    intro c y hy
    rcases BT.get_put _ _ _ _ _ _ hy with ⟨_, h3⟩ | ⟨_, h4⟩
    · cases h3
    · exact h4
  exact ⟨h.lt, h.fn, fun _ _ _ _ _ _ _ hy hz => h.inj _ _ _ _ _ _ _ (hcase hy) (hcase hz), fun _ _ hy => h.ex _ _ (hcase hy), h.fr, h.le, h.ge⟩

end Go.Am

namespace Go.Am
open Go

/-! Numbers and values made plain. -/

def forceN {β : Type} (n : Nat) (k : Nat → β) : β :=
  match n with
  | 0 => k 0
  | m + 1 => k (m + 1)
theorem forceN_eq {β : Type} (n : Nat) (k : Nat → β) : forceN n k = k n := by cases n <;> rfl

def forceI {β : Type} (i : Int) (k : Int → β) : β :=
  match i with
  | .ofNat n => forceN n fun n => k (.ofNat n)
  | .negSucc n => forceN n fun n => k (.negSucc n)
theorem forceI_eq {β : Type} (i : Int) (k : Int → β) : forceI i k = k i := by cases i <;> simp only [forceI, forceN_eq]

def forceV {β : Type} (v : Value) (k : Value → β) : β :=
  match v with
  | .int kk i => forceI i fun i => k (.int kk i)
  | .bool true => k (.bool true)
  | .bool false => k (.bool false)
  | .pointer (some ⟨b, o, s⟩) => forceN b fun b => forceN o fun o => k (.pointer (some ⟨b, o, s⟩))
  | .slice (some ⟨b, o, s⟩) l c => forceN b fun b => forceN o fun o => forceN l fun l => forceN c fun c => k (.slice (some ⟨b, o, s⟩) l c)
  | v => k v
theorem forceV_eq {β : Type} (v : Value) (k : Value → β) : forceV v k = k v := by
  unfold forceV
  split <;> simp only [forceI_eq, forceN_eq]

def forceL {β : Type} : List Value → (List Value → β) → β
  | [], k => k []
  | v :: l, k => forceV v fun v => forceL l fun l => k (v :: l)
theorem forceL_eq {β : Type} : ∀ (l : List Value) (k : List Value → β), forceL l k = k l := by
  intro l
  induction l with
  | nil => intro k; rfl
  | cons v l ih => intro k; simp only [forceL, forceV_eq, ih]

/-- what a block holds, made plain -/
def forceX {β : Type} (x : XO) (k : XO → β) : β :=
  match x with
  | .cells vs es lo hi op wr => forceL vs fun vs => k (.cells vs es lo hi op wr)
  | x => k x
theorem forceX_eq {β : Type} (x : XO) (k : XO → β) : forceX x k = k x := by
  unfold forceX
  split <;> simp only [forceL_eq]

/-! Operands. -/

def constB : Value → Bool
  | .agg a => a.toList.all flatB
  | .tuple a => a.toList.all flatB
  | v => flatB v

def opvX (F : BT Value) : Operand → Option Value
  | .tmp i => F.get i
  | .const v => bif constB v then some v else none
  | .func f => some (.func (.func f) #[] #[])
  | .global _ => none

def opvLX (F : BT Value) : List Operand → Option (List Value)
  | [] => some []
  | x :: xs => match opvX F x with
    | some v => match opvLX F xs with
      | some vs => some (v :: vs)
      | none => none
    | none => none

def partsX (F : BT Value) : List (Nat × Operand) → Option (List (Nat × Value))
  | [] => some []
  | (i, x) :: xs => match opvX F x with
    | some v => match partsX F xs with
      | some vs => some ((i, v) :: vs)
      | none => none
    | none => none

def nth : List Value → Nat → Option Value
  | [], _ => none
  | v :: _, 0 => some v
  | _ :: vs, n + 1 => nth vs n
theorem nth_eq : ∀ (vs : List Value) (n : Nat), nth vs n = vs[n]? := by
  intro vs
  induction vs with
  | nil => intro n; rfl
  | cons v vs ih => intro n; cases n with
    | zero => rfl
    | succ n => simpa [nth] using ih n

def sub : List Value → Nat → Nat → List Value
  | _, 0, 0 => []
  | [], _, _ => []
  | v :: vs, 0, n + 1 => v :: sub vs 0 n
  | _ :: vs, o + 1, n => sub vs o n
theorem sub_eq : ∀ (vs : List Value) (o n : Nat), sub vs o n = (vs.drop o).take n := by
  intro vs
  induction vs with
  | nil => intro o n; cases o <;> cases n <;> simp [sub]
  | cons v vs ih =>
    intro o n
    cases o with
    | zero => cases n <;> simp [sub, ih]
    | succ o => simp [sub, ih]

/-! What only computes. -/

def binX (T : Nat → Option TI) (op : BinOp) (t : TypeId) (a b : Value) : Option Value :=
  match a, b with
  | .int k m, .int j n =>
    bif isShift op then (match n with
      | .ofNat _ => some (.int k (shiftR op k m n))
      | .negSucc _ => none)
    else bif kindB k j then
      bif isDiv op then (match n with
        | .ofNat 0 => none
        | _ => some (.int k (divR op k m n)))
      else binI op k m n
    else none
  | .string x, .string y =>
    bif isAdd op then (bif Nat.blt (x.size + y.size) 4294967296 then some (.string (x ++ y)) else none)
    else binT op x y
  | _, _ => match isEq op, T t with
    | some e, some ti => match eqVal ti.desc a b with
      | some r => some (.bool (eqRes e r))
      | none => none
    | _, _ => none

def partX (cs : List Value) (off sz : Nat) (ag : Bool) : Option Value :=
  match ag with
  | true => some (.agg (sub cs off sz).toArray)
  | false => nth cs off

def natOf : Int → Option Nat
  | .ofNat n => some n
  | .negSucc _ => none

def puOp (T : Nat → Option TI) (o : Oper) (F : BT Value) : Option Value :=
  match o.op with
  | .move x => opvX F x
  | .assign x => opvX F x
  | .pick c a b => match opvX F c with
    | some (.bool cb) => match opvX F a, opvX F b with
      | some va, some vb => some (pickV cb va vb)
      | _, _ => none
    | _ => none
  | .nilCheck x => match opvX F x with
    | some (.pointer (some ⟨b, ofs, none⟩)) => some (.pointer (some ⟨b, ofs, none⟩))
    | _ => none
  | .binOp op t x y _ => match opvX F x with
    | some a => match opvX F y with
      | some b => binX T op t a b
      | none => none
    | none => none
  | .unOp op _ x => match opvX F x with
    | some v => match op, v with
      | .not, .bool b => some (.bool !b)
      | .neg, .int k n => some (.int k (k.wrap (0 - n)))
      | .xor, .int k n => some (.int k (k.wrap (BitVec.ofInt k.bits (if k.signed then -1 else k.max) ^^^ BitVec.ofInt k.bits n).toNat))
      | _, _ => none
    | none => none
  | .convert src dst x => match opvX F x with
    | some v => match T src, T dst with
      | some _, some td => match v, td.desc with
        | .int _ n, .int k => some (.int k (k.wrap n))
        | .string s, .string => some (.string s)
        | _, _ => none
      | _, _ => none
    | none => none
  | .extract x i => match opvX F x with
    | some (.tuple vs) => nth vs.toList i
    | _ => none
  | .makeFunc (.func f) fs cs => match opvLX F fs.toList with
    | some vs => match opvLX F cs.toList with
      | some us => some (.func (.func f) vs.toArray us.toArray)
      | none => none
    | none => none
  | .field t x fl => match opvX F x with
    | some (.agg cs) => match T t with
      | some ti => match ti.desc, ti.flds[fl]? with
        | .struct _, some (off, sz, ag) => partX cs.toList off sz ag
        | _, _ => none
      | none => none
    | _ => none
  | .fieldAddr t x fl => match opvX F x with
    | some (.pointer (some ⟨b, ofs, none⟩)) => match T t with
      | some ti => match ti.desc, ti.flds[fl]? with
        | .struct _, some (off, _ + 1, _) => some (.pointer (some ⟨b, ofs + off, none⟩))
        | _, _ => none
      | none => none
    | _ => none
  | .indexAddr t x y => match opvX F x with
    | some v => match opvX F y with
      | some (.int _ i) => match natOf i with
        | some n => match T t, v with
          | some ti, .slice (some ⟨b, ofs, none⟩) len _ => match ti.desc with
            | .slice _ => bif Nat.blt n len then some (.pointer (some ⟨b, ofs + n * ti.esz, none⟩)) else none
            | _ => none
          | some ti, .pointer (some ⟨b, ofs, none⟩) => match ti.desc with
            | .array len _ => bif Nat.blt n len then some (.pointer (some ⟨b, ofs + n * ti.esz, none⟩)) else none
            | _ => none
          | _, _ => none
        | none => none
      | _ => none
    | none => none
  | .index t x y => match opvX F x with
    | some v => match opvX F y with
      | some (.int _ i) => match natOf i with
        | some n => match T t, v with
          | some ti, .string s => match ti.desc with
            | .string => match s.data.toList[n]? with
              | some c => some (.int .u8 c.toNat)
              | none => none
            | _ => none
          | some ti, .agg cs => match ti.desc with
            | .array len _ => bif Nat.blt n len then partX cs.toList (n * ti.esz) ti.esz ti.eagg else none
            | _ => none
          | _, _ => none
        | none => none
      | _ => none
    | none => none
  | .build t ps => match partsX F ps.toList with
    | some l => match T t with
      | some ti => match ti.desc with
        | .struct _ => bif ti.zero.all flatB then (match fillL (placeF ti.flds) ti.zero l with
          | some r => some (.agg r.toArray)
          | none => none) else none
        | _ => none
      | none => none
    | none => none
  | .call c => match c.callee with
    | .builtin .len => match c.args.toList, c.argTypes.toList with
      | [x], [t] => match opvX F x with
        | some v => match T t with
          | some ti => match ti.desc, v with
            | .string, .string s => some (.int .i64 s.size)
            | .slice _, .slice none n _ => some (.int .i64 n)
            | .slice _, .slice (some ⟨_, _, none⟩) n _ => some (.int .i64 n)
            | .slice _, .slice (some ⟨_, _, some 0⟩) n _ => some (.int .i64 n)
            | .array n _, _ => some (.int .i64 n)
            | _, _ => none
          | none => none
        | none => none
      | _, _ => none
    | _ => none
  | _ => none

/-! What reads memory. -/

def boundX (F : BT Value) (x : Option Operand) (dflt : Nat) : Option Nat :=
  match x with
  | none => some dflt
  | some x => match opvX F x with
    | some (.int _ i) => natOf i
    | _ => none

/-- a slice's cells, by the block -/
def bytesOf : List Value → Option BS
  | [] => some []
  | .int .u8 (.ofNat n) :: l => bif Nat.blt n 256 then (match bytesOf l with
    | some s => some (UInt8.ofNat n :: s)
    | none => none) else none
  | _ => none

def sliceX (ti : TI) (b ofs len cap lo l h m : Nat) (mx : Bool) : Option Value :=
  bif Nat.blt cap bigU then
    (bif Nat.ble l h && Nat.ble h m && Nat.ble m cap then some (.slice (some (bif Nat.beq m l then ⟨b, ofs, none⟩ else ⟨b, ofs + l * ti.esz, none⟩)) (h - l) (m - l)) else none)
  else
    bif mx then (bif Nat.ble l h && Nat.ble h m && Nat.ble m len && Nat.blt m bigU then some (.slice (some (bif Nat.beq m l then ⟨b, ofs, none⟩ else ⟨b, ofs + l * ti.esz, none⟩)) (h - l) (m - l)) else none)
    else (bif Nat.ble l h && (Nat.ble h len || Nat.ble (bigU + h + (cap - bigU)) (bigU + lo)) then
      (bif Nat.beq l 0 then some (.slice (some ⟨b, ofs, none⟩) h cap)
      else bif Nat.beq l h then some (.slice (some ⟨b, 0, some 0⟩) 0 0)
      else some (.slice (some ⟨b, ofs + l * ti.esz, none⟩) (h - l) (cap + l))) else none)

def loOf (H : BT XO) (b : Nat) : Nat :=
  match H.get b with
  | some (.cells _ _ lo _ true _) => lo
  | _ => 0

def ldOp (T : Nat → Option TI) (o : Oper) (F : BT Value) (H : BT XO) : Option Value :=
  match o.op with
  | .load t x => match opvX F x with
    | some (.pointer (some ⟨b, ofs, none⟩)) => match T t, H.get b with
      | some ti, some (.cells vs _ _ _ _ _) => match ti.agg with
        | false => nth vs ofs
        | true => bif Nat.ble (ofs + ti.size) vs.length then some (.agg (sub vs ofs ti.size).toArray) else none
      | _, _ => none
    | _ => none
  | .convert src dst x => match opvX F x with
    | some v => match T src, T dst with
      | some ts, some td => match ts.desc, td.desc with
        | .slice e, .string => match T e with
          | some te => match te.desc with
            | .int .u8 => match v with
              | .slice none 0 _ => some (S [])
              | .slice (some ⟨b, ofs, none⟩) n _ => match H.get b with
                | some (.cells vs _ _ _ _ _) => bif Nat.ble (ofs + n) vs.length then (match bytesOf (sub vs ofs n) with
                  | some s => some (S s)
                  | none => none) else none
                | _ => none
              | _ => none
            | _ => none
          | none => none
        | _, _ => none
      | _, _ => none
    | none => none
  | .lookup t x y ok => match opvX F x with
    | some v => match opvX F y with
      | some (.string s) => match T t with
        | some ti => match ti.desc with
          | .map kt et => match T kt, T et with
            | some tk, some te => match tk.desc with
              | .string => bif te.zero.all flatB then (match v with
                | .map none => some (lookV ok [] s.data.toList (zeroV te))
                | .map (some r) => match H.get r with
                  | some (.map l _) => some (lookV ok l s.data.toList (zeroV te))
                  | _ => none
                | _ => none) else none
              | _ => none
            | _, _ => none
          | _ => none
        | none => none
      | _ => none
    | none => none
  | .slice t x lo hi mx => match opvX F x with
    | some v => match T t with
      | some ti => match ti.desc, v with
        | .string, .string s => match mx with
          | none => match boundX F lo 0, boundX F hi s.size with
            | some l, some h => bif Nat.ble l h && Nat.ble h s.size then some (S ((s.data.toList.drop l).take (h - l))) else none
            | _, _ => none
          | some _ => none
        | .slice _, .slice none 0 0 => match boundX F lo 0, boundX F hi 0, mx with
          | some 0, some 0, none => some (.slice none 0 0)
          | _, _, _ => none
        | .slice _, .slice (some ⟨b, ofs, none⟩) len cap => match boundX F lo 0, boundX F hi len, boundX F mx cap with
          | some l, some h, some m => bif !mx.isSome || hi.isSome then sliceX ti b ofs len cap (loOf H b) l h m mx.isSome else none
          | _, _, _ => none
        | .pointer _, _ => none
        | .array len _, .pointer (some ⟨b, ofs, none⟩) => match boundX F lo 0, boundX F hi len, boundX F mx len with
          | some l, some h, some m => bif (!mx.isSome || hi.isSome) && Nat.blt len bigU then
              (bif Nat.ble l h && Nat.ble h m && Nat.ble m len then some (.slice (some (bif Nat.beq m l then ⟨b, ofs, none⟩ else ⟨b, ofs + l * ti.esz, none⟩)) (h - l) (m - l)) else none) else none
          | _, _, _ => none
        | _, _ => none
      | none => none
    | none => none
  | .entry x => match opvX F x with
    | some (.pointer (some ⟨r, 0, none⟩)) => match H.get r with
      | some (.miter (some m) _ seen stepped) => match H.get m, seen.getLast? with
        | some (.map l c), some stamp => bif Nat.beq c stepped then (match l.find? (fun e => Nat.beq e.2.2 stamp) with
          | some e => some (.tuple #[S e.1, e.2.1])
          | none => none) else none
        | _, _ => none
      | _ => none
    | _ => none
  | .call c => match c.callee with
    | .builtin .len => match c.args.toList, c.argTypes.toList with
      | [x], [t] => match opvX F x with
        | some v => match T t with
          | some ti => match ti.desc, v with
            | .map _ _, .map none => some (.int .i64 0)
            | .map _ _, .map (some r) => match H.get r with
              | some (.map l _) => some (.int .i64 l.length)
              | _ => none
            | _, _ => none
          | none => none
        | none => none
      | _, _ => none
    | .builtin .cap => match c.args.toList, c.argTypes.toList with
      | [x], [t] => match opvX F x with
        | some v => match T t with
          | some ti => match ti.desc, v with
            | .slice _, .slice none _ c => some (.int .i64 c)
            | .slice _, .slice (some ⟨b, _, none⟩) _ c => bif Nat.blt c bigU then some (.int .i64 c) else some (.complex .f64 b (c - bigU))
            | _, _ => none
          | none => none
        | none => none
      | _, _ => none
    | _ => none
  | _ => none

/-! What acts. -/

abbrev Eff := Value × BT XO × Nat

/-- the cells of what is appended -/
def srcX (H : BT XO) (size : Nat) (x : Value) : Option (Nat × List Value) :=
  match x with
  | .slice none 0 _ => some (0, [])
  | .slice (some ⟨b, _, some 0⟩) 0 _ => match H.get b with
    | some (.cells _ _ _ _ _ _) => some (0, [])
    | _ => none
  | .slice (some ⟨b, o, none⟩) n _ => match H.get b with
    | some (.cells vs _ _ _ _ _) => bif Nat.ble (o + n * size) vs.length then some (n, sub vs o (n * size)) else none
    | _ => none
  | .string s => bif Nat.beq size 1 then some (s.size, s.data.toList.map u8) else none
  | _ => none

def copyN : Value → Option Nat
  | .slice _ n _ => some n
  | _ => none
def cutV : Value → Nat → Value
  | .slice a _ c, n => .slice a n c
  | v, _ => v

/-- cells up to a place, of a block that is known to have so many -/
def roomX (vs : List Value) (es lo : Nat) (op : Bool) (m : Nat) : Option (List Value) :=
  bif Nat.ble m vs.length then some vs else bif op && Nat.ble m (lo * es) then some (vs ++ rep [.chan none] (m - vs.length)) else none

def fitsB (c l m lo : Nat) (op : Bool) : Bool := bif Nat.blt c bigU then Nat.ble (l + m) c else op && Nat.ble (l + m + c) (bigU + lo)
def growsB (c l m hi : Nat) (op : Bool) : Bool := bif Nat.blt c bigU then Nat.blt c (l + m) else op && Nat.blt 0 hi && Nat.ble (bigU + hi) (l + m + c)

def appX (te : TI) (H : BT XO) (n : Nat) (s : Value) (m : Nat) (news : List Value) : Option Eff :=
  match s with
  | .slice none l c =>
    bif Nat.ble (l + m) c then some (.slice none (l + m) c, H, n)
    else bif Nat.beq l 0 && news.all (·.oneCell') then some (.slice (some ⟨n, 0, none⟩) m bigU, BT.put 32 H n (some (.cells news te.size m 0 true true)), n + 1) else none
  | .slice (some ⟨b, o, none⟩) l c => match H.get b with
    | some (.cells vs es lo hi op wr) =>
      bif fitsB c l m lo op then
        (match roomX vs es lo op (o + l * te.size + m * te.size) with
        | some vs => bif wr && news.all (·.oneCell') then some (.slice (some ⟨b, o, none⟩) (l + m) c, BT.put 32 H b (some (.cells (splice vs (o + l * te.size) news) es lo hi op wr)), n) else none
        | none => none)
      else bif growsB c l m hi op then
        (bif Nat.ble (o + l * te.size) vs.length && news.all (·.oneCell') then some (.slice (some ⟨n, 0, none⟩) (l + m) bigU, BT.put 32 H n (some (.cells (sub vs o (l * te.size) ++ news) te.size (l + m) 0 true true)), n + 1) else none)
      else bif Nat.beq c bigU && Nat.beq o 0 && op && wr && Nat.beq es te.size && Nat.ble (l * te.size) vs.length && news.all (·.oneCell') then
          some (.slice (some ⟨n, 0, none⟩) (l + m) bigU, BT.put 32 (BT.put 32 H b none) n (some (.cells (sub vs 0 (l * te.size) ++ news) te.size (l + m) 0 true true)), n + 1)
        else none
    | _ => none
  | _ => none

def ldel : List Ent → BS → List Ent
  | [], _ => []
  | e :: l, k => if k = e.1 then l else e :: ldel l k

def appArm (te : TI) (H : BT XO) (n : Nat) (s : Value) (src : Option (Nat × List Value)) : Option (List Eff) :=
  bif Nat.ble 1 te.bytes && te.zero.all flatB && Nat.beq te.zero.length te.size then (match src with
    | some (m, news) => match s with
      | .slice _ l _ => bif Nat.ble ((2 * (l + m) + 192) * te.bytes) 281474976710656 then (match appX te H n s m news with
        | some e => some [e]
        | none => none) else none
      | _ => none
    | none => none) else none

def zsrc (te : TI) (v : Value) : Option (Nat × List Value) :=
  match v with
  | .int .i64 (.ofNat m) => some (m, rep te.zero m)
  | _ => none

/-- a step of a range over a map: each entry that may come next -/
def nextL (r m since : Nat) (seen : List Nat) (c : Nat) (H : BT XO) (n : Nat) : List Ent → List Eff
  | [] => []
  | e :: l => (.tuple #[.bool true, S e.1, e.2.1], BT.put 32 H r (some (.miter (some m) since (seen ++ [e.2.2]) c)), n) :: nextL r m since seen c H n l

def nextX (r m since : Nat) (seen : List Nat) (last : Nat) (l : List Ent) (c : Nat) (H : BT XO) (n : Nat) : Option (List Eff) :=
  bif l.all (fun e => Nat.blt e.2.2 since) && (seen.isEmpty || l.isEmpty || l.any (fun e => Nat.blt e.2.2 last)) then
    (match l.filter (fun e => !seen.any (Nat.beq e.2.2)) with
    | [] => some [(.tuple #[.bool false], H, n)]
    | left => some (nextL r m since seen c H n left))
  else none

def efOp (T : Nat → Option TI) (o : Oper) (F : BT Value) (H : BT XO) (n : Nat) : Option (List Eff) :=
  match o.op with
  | .store t x y => match opvX F x with
    | some (.pointer (some ⟨b, ofs, none⟩)) => match opvX F y with
      | some u => match T t, H.get b with
        | some ti, some (.cells vs es lo hi op true) =>
          bif Nat.beq (valCells u).length ti.size && (valCells u).all (·.oneCell') then
            (match roomX vs es lo op (ofs + (valCells u).length) with
            | some vs => some [(undef, BT.put 32 H b (some (.cells (splice vs ofs (valCells u)) es lo hi op true)), n)]
            | none => none)
          else none
        | _, _ => none
      | none => none
    | _ => none
  | .alloc t => match T t with
    | some ti => bif ti.zero.all flatB then some [(.pointer (some ⟨n, 0, none⟩), BT.put 32 H n (some (.cells ti.zero 1 0 0 false true)), n + 1)] else none
    | none => none
  | .box _ x => match opvX F x with
    | some v => bif (valCells v).all (·.oneCell') then some [(.pointer (some ⟨n, 0, none⟩), BT.put 32 H n (some (.cells (valCells v) 1 0 0 false true)), n + 1)] else none
    | none => none
  | .buildSlice t len ps => match partsX F ps.toList with
    | some l => match T t with
      | some ti => match ti.desc with
        | .slice el => match T el with
          | some te => bif Nat.beq len 0 then (match l with
              | [] => some [(.slice (some ⟨n, 0, none⟩) 0 0, BT.put 32 H n (some (.cells [] 1 0 0 false true)), n + 1)]
              | _ => none) else bif te.zero.all flatB && Nat.beq te.zero.length te.size && Nat.ble 1 te.size && Nat.ble 1 len && Nat.ble (len * te.size) 16777216 then
              (match fillL (fun i => some (i * te.size, te.size)) (rep te.zero len) l with
              | some r => bif r.all (·.oneCell') then some [(.slice (some ⟨n, 0, none⟩) len len, BT.put 32 H n (some (.cells r 1 0 0 false true)), n + 1)] else none
              | none => none)
            else none
          | none => none
        | _ => none
      | none => none
    | none => none
  | .binOp .gtr _ x y _ => match opvX F x with
    | some (.int .i64 (.ofNat m)) => match opvX F y with
      | some (.complex .f64 b k) => match H.get b with
        | some (.cells vs es lo hi true wr) => some [(.bool true, BT.put 32 H b (some (.cells vs es lo (m + k) true wr)), n), (.bool false, BT.put 32 H b (some (.cells vs es (m + k) hi true wr)), n)]
        | _ => none
      | _ => none
    | _ => none
  | .range t x => match opvX F x with
    | some v => match T t with
      | some ti => match ti.desc, v with
        | .string, .string s => some [(.pointer (some ⟨n, 0, none⟩), BT.put 32 H n (some (.siter s 0)), n + 1)]
        | .map _ _, .map none => some [(.pointer (some ⟨n, 0, none⟩), BT.put 32 H n (some (.miter none 0 [] 0)), n + 1)]
        | .map _ _, .map (some m) => match H.get m with
          | some (.map _ c) => some [(.pointer (some ⟨n, 0, none⟩), BT.put 32 H n (some (.miter (some m) c [] c)), n + 1)]
          | _ => none
        | _, _ => none
      | none => none
    | none => none
  | .next x isS => match opvX F x with
    | some (.pointer (some ⟨r, 0, none⟩)) => match H.get r, isS with
      | some (.siter s pos), true =>
        bif Nat.blt pos s.size then
          some [(.tuple #[.bool true, .int .i64 pos, .int .i32 (Utf8.decode s pos).1], BT.put 32 H r (some (.siter s (pos + (Utf8.decode s pos).2))), n)]
        else some [(.tuple #[.bool false], H, n)]
      | some (.miter none _ _ _), false => some [(.tuple #[.bool false], H, n)]
      | some (.miter (some m) since seen last), false => match H.get m with
        | some (.map l c) => nextX r m since seen last l c H n
        | _ => none
      | _, _ => none
    | _ => none
  | .makeSlice t x y => match opvX F x, opvX F y with
    | some (.int .i64 (.ofNat len)), some (.int .i64 (.ofNat cap)) => match T t with
      | some ti => match ti.desc with
        | .slice e => match T e with
          | some te => bif te.zero.all flatB && Nat.beq te.zero.length te.size && Nat.ble 1 te.size && Nat.ble len cap && Nat.ble 1 te.bytes && Nat.ble (te.bytes * cap) 16777216 then
              some [(.slice (some ⟨n, 0, none⟩) len cap, BT.put 32 H n (some (.cells (rep te.zero cap) 1 0 0 false true)), n + 1)]
            else none
          | none => none
        | _ => none
      | none => none
    | _, _ => none
  | .makeMap t none => match T t with
    | some ti => match ti.desc with
      | .map _ _ => some [(.map (some n), BT.put 32 H n (some (.map [] 0)), n + 1)]
      | _ => none
    | none => none
  | .mapUpdate t x y z => match opvX F x with
    | some (.map (some r)) => match opvX F y with
      | some (.string s) => match opvX F z with
        | some v => match T t, H.get r with
          | some ti, some (.map l c) => match ti.desc with
            | .map kt _ => match T kt with
              | some tk => match tk.desc with
                | .string => some [(undef, BT.put 32 H r (some (.map (lput l c s.data.toList v).1 (lput l c s.data.toList v).2)), n)]
                | _ => none
              | none => none
            | _ => none
          | _, _ => none
        | none => none
      | _ => none
    | _ => none
  | .convert src dst x => match opvX F x with
    | some (.string s) => match T src, T dst with
      | some ts, some td => match ts.desc, td.desc with
        | .string, .slice e => match T e with
          | some te => match te.desc with
            | .int .u8 => some [(.slice (some ⟨n, 0, none⟩) s.data.toList.length bigU, BT.put 32 H n (some (.cells (s.data.toList.map u8) 1 s.data.toList.length 0 true false)), n + 1)]
            | _ => none
          | none => none
        | _, _ => none
      | _, _ => none
    | _ => none
  | .call c => match c.callee with
    | .builtin .append => match c.args.toList, c.argTypes.toList with
      | [x, y], [sT, xT] => match opvX F x with
        | some s => match opvX F y with
          | some vy => match T sT, T xT with
            | some ti, some tx => match ti.desc, tx.desc with
              | .slice e, .slice _ => match T e with
                | some te => appArm te H n s (srcX H te.size vy)
                | none => none
              | .slice e, .string => match T e with
                | some te => appArm te H n s (srcX H te.size vy)
                | none => none
              | .slice e, .int _ => match T e with
                | some te => appArm te H n s (zsrc te vy)
                | none => none
              | _, _ => none
            | _, _ => none
          | none => none
        | none => none
      | _, _ => none
    | .builtin .clear => match c.args.toList, c.argTypes.toList with
      | [x], [sT] => match opvX F x with
        | some (.slice (some ⟨b, o, none⟩) l _) => match T sT with
          | some ti => match ti.desc with
            | .slice e => match T e, H.get b with
              | some te, some (.cells vs es lo hi op true) =>
                bif te.zero.all flatB && Nat.beq te.zero.length te.size then
                  (match roomX vs es lo op (o + l * te.size) with
                  | some vs => some [(.tuple #[], BT.put 32 H b (some (.cells (splice vs o (rep te.zero l)) es lo hi op true)), n)]
                  | none => none)
                else none
              | _, _ => none
            | _ => none
          | none => none
        | _ => none
      | _, _ => none
    | .builtin .copy => match c.args.toList, c.argTypes.toList with
      | [x, y], [sT, _] => match opvX F x with
        | some s => match opvX F y with
          | some vy => match T sT with
            | some ti => match ti.desc with
              | .slice e => match T e with
                | some te => match s with
                  | .slice none _ _ => none
                  | .slice (some ⟨b, o, none⟩) l _ => match copyN vy with
                    | some m0 => match srcX H te.size (cutV vy (Nat.min m0 l)) with
                      | some (m, news) => match H.get b with
                        | some (.cells vs es lo hi op true) =>
                          (match roomX vs es lo op (o + m * te.size) with
                          | some vs => bif news.all (·.oneCell') then some [(.int .i64 m, BT.put 32 H b (some (.cells (splice vs o news) es lo hi op true)), n)] else none
                          | none => none)
                        | _ => none
                      | none => none
                    | none => none
                  | _ => none
                | none => none
              | _ => none
            | none => none
          | none => none
        | none => none
      | _, _ => none
    | _ => none
  | _ => none

/-- what is called, with what -/
def callX (o : Oper) (F : BT Value) : Option (Value × List Value) :=
  match o.op with
  | .call c => match c.callee with
    | .value fo => match opvX F fo with
      | some fv => match opvLX F c.args.toList with
        | some vs => some (fv, vs)
        | none => none
      | none => none
    | _ => none
  | _ => none

/-! The evaluator. -/

inductive KT (α : Type) where
  | leaf
  | node (k : Nat) (v : α) (l r : KT α)

def KT.get {α : Type} : KT α → Nat → Option α
  | .leaf, _ => none
  | .node k v l r, t => bif Nat.beq t k then some v else bif Nat.blt t k then l.get t else r.get t

def KT.All {α : Type} (p : Nat → α → Prop) : KT α → Prop
  | .leaf => True
  | .node k v l r => p k v ∧ l.All p ∧ r.All p

theorem KT.All.get {α : Type} {p : Nat → α → Prop} : ∀ {t : KT α}, t.All p → ∀ {k : Nat} {v : α}, t.get k = some v → p k v := by
  intro t
  induction t with
  | leaf => intro _ k i h; cases h
  | node k v l r ihl ihr =>
    intro h j i hj
    obtain ⟨h1, h2, h3⟩ := h
    simp only [KT.get] at hj
    cases hb : Nat.beq j k with
    | true =>
      rw [hb] at hj
      simp only [cond_true, Option.some.injEq] at hj
      obtain rfl := Nat.eq_of_beq_eq_true hb
      rw [← hj]; exact h1
    | false =>
      rw [hb] at hj
      simp only [cond_false] at hj
      cases hl : Nat.blt j k with
      | true => rw [hl] at hj; exact ihl h2 hj
      | false => rw [hl] at hj; exact ihr h3 hj

structure EP where
  T : Nat → Option TI
  fs : Nat → Option Func
  pi : Nat → Nat → Option Ord
  orac : Nat → List Value → BT XO → Nat → Option (Option (List Eff))

inductive Task where
  | code (r : Option Nat) (f N : Nat) (c : Code) (F : BT Value) (ds : List Nat)
  | loop (r : Option Nat) (f N : Nat) (c : Code) (F : BT Value) (ds : List Nat)
  | call (f : Nat) (args : List Value)

inductive Res where
  | ex (e : Exit) (F : BT Value) (ds : List Nat)
  | val (v : Value)

abbrev Rec := Task → BT XO → Nat → (Res → BT XO → Nat → Bool) → Bool

def allK (k : Eff → Bool) : List Eff → Bool
  | [] => true
  | [e] => k e
  | e :: l => bif k e then allK k l else false

def putDK {β : Type} (F : BT Value) (d : Option Tmp) (v : Value) (k : BT Value → β) : β :=
  match d with
  | some d => BT.putK 32 F d (some v) k
  | none => k F

theorem putDK_eq {β : Type} (F : BT Value) (d : Option Tmp) (v : Value) (k : BT Value → β) : putDK F d v k = k (fputD F d v) := by
  cases d with
  | none => rfl
  | some d => simp only [putDK, fputD, BT.putK_eq]

/-- is an operation wanted? -/
def wantX (ops : List Oper) (F : BT Value) (o : Oper) : Option Bool :=
  match o.guard with
  | none => some true
  | some (j, want) => match (ops[j]?).bind (·.dst) with
    | some d => match F.get d with
      | some (.bool true) => some want
      | some (.bool false) => some !want
      | some (.tuple _) => some false
      | _ => none
    | none => some false

def roundEv (rec : Rec) (l : Nat) (args : List Value) (H : BT XO) (n : Nat) (k : Value → BT XO → Nat → Bool) : Bool :=
  match H.get l with
  | some (.loop .ready _ f N F ps as bo _) =>
    bif Nat.beq args.length ps.size && ps.toList.all (Nat.blt · N) then
      rec (.code (some l) f N as ((ps.toList.zip args).foldl (fun F x => BT.put 32 F x.1 (some x.2)) F) []) H n fun res H n => match res with
        | .ex .normal F1 ds1 => match H.get l with
          | some (.loop .ready p2 f2 N2 F2 ps2 as2 bo2 d2) =>
            BT.putK 32 H l (some (.loop .busy p2 f2 N2 F2 ps2 as2 bo2 d2)) fun H =>
            rec (.code (some l) f N bo F1 ds1) H n fun res H n => match res with
              | .ex e _ _ => match jumpOf e with
                | some jump => match H.get l with
                  | some (.loop _ _ f3 N3 F3 ps3 as3 bo3 d3) => BT.putK 32 H l (some (.loop (match jump with | none => .ready | some _ => .done) jump f3 N3 F3 ps3 as3 bo3 d3)) fun H => k (.bool (match jump with | none => true | some _ => false)) H n
                  | _ => false
                | none => false
              | .val _ => false
          | _ => false
        | _ => false
    else false
  | _ => false

/-- one operation -/
def opEv (E : EP) (rec : Rec) (o : Oper) (F : BT Value) (H : BT XO) (n : Nat) (k : Value → BT XO → Nat → Bool) : Bool :=
  match puOp E.T o F with
  | some v => forceV v fun v => k v H n
  | none => match ldOp E.T o F H with
    | some v => forceV v fun v => k v H n
    | none => match efOp E.T o F H n with
      | some l => allK (fun e => k e.1 e.2.1 e.2.2) l
      | none => match callX o F with
        | some (.func (.func g) first cap, args) => rec (.call g ((first.toList ++ args) ++ cap.toList)) H n fun res H n => match res with
          | .val v => k v H n
          | .ex _ _ _ => false
        | some (.func (.yield l) _ _, args) => roundEv rec l args H n k
        | _ => false

def opsEv (E : EP) (rec : Rec) (N : Nat) (ops : List Oper) : List Oper → BT Value → BT XO → Nat → (BT Value → BT XO → Nat → Bool) → Bool
  | [], F, H, n, k => k F H n
  | o :: l, F, H, n, k => bif dstOk N o.dst then
      (match wantX ops F o with
      | some true => opEv E rec o F H n fun v H n => putDK F o.dst v fun F => opsEv E rec N ops l F H n k
      | some false => putDK F o.dst undef fun F => opsEv E rec N ops l F H n k
      | none => false)
    else false

/-- two values alike -/
def sameB : List UInt8 → List UInt8 → Bool
  | [], [] => true
  | a :: l, b :: m => Nat.beq a.toNat b.toNat && sameB l m
  | _, _ => false
def sameI : Int → Int → Bool
  | .ofNat a, .ofNat b => Nat.beq a b
  | .negSucc a, .negSucc b => Nat.beq a b
  | _, _ => false
def sameO : Option Nat → Option Nat → Bool
  | none, none => true
  | some a, some b => Nat.beq a b
  | _, _ => false
def sameV : Value → Value → Bool
  | .bool a, .bool b => a == b
  | .int k a, .int j b => kindB k j && sameI a b
  | .string a, .string b => sameB a.data.toList b.data.toList
  | .pointer none, .pointer none => true
  | .pointer (some ⟨b, o, none⟩), .pointer (some ⟨c, p, none⟩) => Nat.beq b c && Nat.beq o p
  | .slice none l c, .slice none m d => Nat.beq l m && Nat.beq c d
  | .slice (some ⟨b, o, none⟩) l c, .slice (some ⟨e, p, none⟩) m d => Nat.beq b e && Nat.beq o p && Nat.beq l m && Nat.beq c d
  | .map a, .map b => sameO a b
  | .nilFunc, .nilFunc => true
  | .nilIface, .nilIface => true
  | _, _ => false

def sameL (p : Value → Value → Bool) : List Value → List Value → Bool
  | [], [] => true
  | a :: l, b :: m => p a b && sameL p l m
  | _, _ => false
def sameV1 : Value → Value → Bool
  | .agg a, .agg b => sameL sameV a.toList b.toList
  | a, b => sameV a b
def sameV2 : Value → Value → Bool
  | .tuple a, .tuple b => sameL sameV1 a.toList b.toList
  | a, b => sameV1 a b

structure Pend where
  i : Nat
  o : Oper
  F : BT Value
  v : Value

def pendOk (T : Nat → Option TI) (ops : List Oper) (j : Nat) (H : BT XO) : List Pend → Bool
  | [] => true
  | p :: l => ((taints ops p.i).getD j false || (exact2 p.v && (match ldOp T p.o p.F H with
      | some v => sameV2 p.v v
      | none => false))) && pendOk T ops j H l

def canonEv (E : EP) (rec : Rec) (N : Nat) (ops : List Oper) : Ord → List Pend → BT Value → BT XO → Nat → (BT Value → BT XO → Nat → Bool) → Bool
  | .done, _, F, H, n, k => k F H n
  | .rd i π, act, F, H, n, k => match ops[i]? with
    | some o => bif dstOk N o.dst then
        (match wantX ops F o with
        | some true => match puOp E.T o F with
          | some v => forceV v fun v => putDK F o.dst v fun F => canonEv E rec N ops π act F H n k
          | none => match ldOp E.T o F H with
            | some v => forceV v fun v => putDK F o.dst v fun F1 => canonEv E rec N ops π (⟨i, o, F, v⟩ :: act) F1 H n k
            | none => false
        | some false => putDK F o.dst undef fun F => canonEv E rec N ops π act F H n k
        | none => false)
      else false
    | none => false
  | .ac j π, act, F, H, n, k => match ops[j]? with
    | some o => bif dstOk N o.dst then
        (match wantX ops F o with
        | some true => opEv E rec o F H n fun v H n => bif pendOk E.T ops j H act then putDK F o.dst v fun F => canonEv E rec N ops π act F H n k else false
        | some false => putDK F o.dst undef fun F => canonEv E rec N ops π act F H n k
        | none => false)
      else false
    | none => false
  | .alt a b, act, F, H, n, k => bif canonEv E rec N ops a act F H n k then canonEv E rec N ops b act F H n k else false

def resX (T : Nat → Option TI) (F : BT Value) (H : BT XO) : List ResultVar → Option (List Value)
  | [] => some []
  | .tmp x :: l => match F.get x with
    | some v => match resX T F H l with
      | some vs => some (v :: vs)
      | none => none
    | none => none
  | .cell a t :: l => match F.get a with
    | some (.pointer (some ⟨b, o, none⟩)) => match T t, H.get b with
      | some ti, some (.cells vs _ _ _ _ _) => match ti.agg with
        | false => match nth vs o with
          | some v => match resX T F H l with
            | some us => some (v :: us)
            | none => none
          | none => none
        | true => bif Nat.ble (o + ti.size) vs.length then (match resX T F H l with
          | some us => some (.agg (sub vs o ti.size).toArray :: us)
          | none => none) else none
      | _, _ => none
    | _ => none

def leaveEv (E : EP) (fn : Func) (F : BT Value) (k : Res → BT XO → Nat → Bool) : List Nat → BT XO → Nat → Bool
  | [], H, n => match resX E.T F H fn.results.toList with
    | some vs => forceL vs fun vs => k (.val (tupV vs)) H n
    | none => false
  | d :: ds, H, n => match H.get d with
    | some (.dfr false) => BT.putK 32 H d (some (.dfr true)) fun H => leaveEv E fn F k ds H n
    | _ => false

def afterEv (l : Nat) (F : BT Value) (ds : List Nat) (k : Res → BT XO → Nat → Bool) (H : BT XO) (n : Nat) : Bool :=
  match H.get l with
  | some (.loop st pend f N F2 ps as bo d) =>
    match st with
    | .busy => false
    | _ => BT.putK 32 H l (some (.loop .exhausted pend f N F2 ps as bo d)) fun H => match pend with
      | none => k (.ex .normal F ds) H n
      | some .ret => k (.ex .ret F ds) H n
      | some (.exit id) => k (.ex (.exit id) F ds) H n
      | some (.goto l) => k (.ex (.goto l) F ds) H n
      | _ => false
  | _ => false

def fillF : List Value → Nat → BT Value → BT Value
  | [], _, F => F
  | v :: vs, i, F => fillF vs (i + 1) (BT.put 32 F i (some v))

def stepEv (E : EP) (rec : Rec) (t : Task) (H : BT XO) (n : Nat) (k : Res → BT XO → Nat → Bool) : Bool :=
  match t with
  | .call f args => match E.orac f args H n with
    | some (some l) => allK (fun e => k (.val e.1) e.2.1 e.2.2) l
    | some none => false
    | none => match E.fs f with
      | some fn => match fn.body with
        | some c => bif Nat.ble args.length fn.ntmps then
            rec (.code none f fn.ntmps c (fillF args 0 .leaf) []) H n fun res H n => match res with
              | .ex .normal F ds => leaveEv E fn F k ds H n
              | .ex .ret F ds => leaveEv E fn F k ds H n
              | _ => false
          else false
        | none => false
      | none => false
  | .loop r f N c F ds => rec (.code r f N c F ds) H n fun res H n => match res with
    | .ex .normal F ds => rec (.loop r f N c F ds) H n k
    | res => k res H n
  | .code r f N c F ds => match c with
    | .skip => k (.ex .normal F ds) H n
    | .label _ => k (.ex .normal F ds) H n
    | .exit id => k (.ex (.exit id) F ds) H n
    | .goto l => k (.ex (.goto l) F ds) H n
    | .ret => k (.ex .ret F ds) H n
    | .seq a b => rec (.code r f N a F ds) H n fun res H n => match res with
      | .ex .normal F ds => rec (.code r f N b F ds) H n k
      | res => k res H n
    | .cond c a b => match opvX F c with
      | some (.bool true) => rec (.code r f N a F ds) H n k
      | some (.bool false) => rec (.code r f N b F ds) H n k
      | _ => false
    | .block id a => rec (.code r f N a F ds) H n fun res H n => match res with
      | .ex (.exit id') F ds => bif Nat.beq id' id then k (.ex .normal F ds) H n else k (.ex (.exit id') F ds) H n
      | res => k res H n
    | .loop a => rec (.loop r f N a F ds) H n k
    | .region _ ops false => bif noDeferB ops.toList then opsEv E rec N ops.toList ops.toList F H n fun F H n => k (.ex .normal F ds) H n else false
    | .region id ops true => match E.pi f id with
      | some π => bif ordTop ops.toList π then canonEv E rec N ops.toList π [] F H n fun F H n => k (.ex .normal F ds) H n else false
      | none => false
    | .rangeFunc g ps as bo => match opvX F g with
      | some (.func (.func gf) first cap) => match E.fs gf with
        | some _ => match r with
          | none => BT.putK 32 H n (some (.dfr false)) fun H => BT.putK 32 H (n + 1) (some (.loop .ready none f N F ps as bo n)) fun H =>
            rec (.call gf ((first.toList ++ [.func (.yield (n + 1)) #[] #[]]) ++ cap.toList)) H (n + 2) fun res H m => match res with
              | .val _ => afterEv (n + 1) F (n :: ds) k H m
              | .ex _ _ _ => false
          | some l0 => match H.get l0 with
            | some (.loop _ _ _ _ _ _ _ _ d0) => BT.putK 32 H n (some (.loop .ready none f N F ps as bo d0)) fun H =>
              rec (.call gf ((first.toList ++ [.func (.yield n) #[] #[]]) ++ cap.toList)) H (n + 1) fun res H m => match res with
                | .val _ => afterEv n F ds k H m
                | .ex _ _ _ => false
            | _ => false
        | none => false
      | _ => false
    | _ => false

def ev (E : EP) (n : Nat) : Rec := Nat.rec (motive := fun _ => Rec) (fun _ _ _ _ => false) (fun _ ih => stepEv E ih) n

end Go.Am
