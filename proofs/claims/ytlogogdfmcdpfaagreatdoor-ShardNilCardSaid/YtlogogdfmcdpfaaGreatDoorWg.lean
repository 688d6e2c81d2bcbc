/-
The evaluator suffices: what acts, first part.
-/
import Derived.Test.YtlogogdfmcdpfaaGreatDoorWf
set_option linter.all false
namespace Go.Am
open Go

theorem hset_mem {H : Heap} {b i : Nat} {o : AObj} (ha : At H b o i) (o' : AObj) : ∀ {c : Nat} {x : AObj}, (c, x) ∈ H → c ≠ b → (c, x) ∈ hset H i o' := by
  induction ha with
  | here =>
    intro c x hm hne
    rcases List.mem_cons.1 hm with h | h
    · cases h; exact absurd rfl hne
    · exact List.mem_cons_of_mem _ h
  | there _ ih =>
    intro c x hm hne
    rename_i y _ _
    obtain ⟨y1, y2⟩ := y
    rcases List.mem_cons.1 hm with h | h
    · cases h; exact List.mem_cons_self
    · exact List.mem_cons_of_mem _ (ih h hne)

theorem kf_set {A A' : AHeap} {Hs : Heap} {b i : Nat} {o o' : AObj} (hs : SL A Hs) (ha : At Hs b o i) (h1 : SL A' (hset Hs i o')) (h2 : KF A Hs A' (hset Hs i o')) :
    A'.get b = o' ∧ A.next ≤ A'.next ∧ ∀ c, c < A.next → c ≠ b → A'.get c = A.get c := by
  refine ⟨h1.at (ha.same o'), h2.2.1, fun c hc hne => ?_⟩
  by_cases hk : c ∈ keys Hs
  · obtain ⟨⟨c', x⟩, hm, rfl⟩ := List.mem_map.1 hk
    rw [(h1.2 _ (hset_mem ha o' hm hne)).1, (hs.2 _ hm).1]
  · exact h2.2.2.2 c hc hk

theorem kf_new {A A' : AHeap} {Hs : Heap} {b : Nat} {o : AObj} (hs : SL A Hs) (h1 : SL A' ((b, o) :: Hs)) (h2 : KF A Hs A' ((b, o) :: Hs)) :
    A.next ≤ b ∧ b < A'.next ∧ A'.get b = o ∧ ∀ c, c < A.next → A'.get c = A.get c := by
  have hm := h1.2 (b, o) List.mem_cons_self
  have hb : b ∉ keys Hs := by have := h1.1; simp only [keys, List.map_cons, List.nodup_cons] at this; exact this.1
  refine ⟨?_, hm.2, hm.1, fun c hc => ?_⟩
  · rcases h2.2.2.1 b (by simp [keys]) with h | h
    · exact absurd h hb
    · exact h
  · by_cases hk : c ∈ keys Hs
    · obtain ⟨⟨c', x⟩, hm, rfl⟩ := List.mem_map.1 hk
      rw [(h1.2 _ (List.mem_cons_of_mem _ hm)).1, (hs.2 _ hm).1]
    · exact h2.2.2.2 c hc hk

theorem kf_same {A A' : AHeap} {Hs : Heap} (hs : SL A Hs) (h1 : SL A' Hs) (h2 : KF A Hs A' Hs) : A.next ≤ A'.next ∧ ∀ c, c < A.next → A'.get c = A.get c := by
  refine ⟨h2.2.1, fun c hc => ?_⟩
  by_cases hk : c ∈ keys Hs
  · obtain ⟨⟨c', x⟩, hm, rfl⟩ := List.mem_map.1 hk
    rw [(h1.2 _ hm).1, (hs.2 _ hm).1]
  · exact h2.2.2.2 c hc hk

theorem splice_take : ∀ (us cs : List Value) (i L : Nat), i + cs.length ≤ L → (splice us i cs).take L = splice (us.take L) i cs := by
  intro us
  induction us with
  | nil => intro cs i L h; cases cs <;> simp [splice]
  | cons u us ih =>
    intro cs i L h
    cases cs with
    | nil => cases L <;> simp [splice]
    | cons c cs =>
      simp only [List.length_cons] at h
      cases L with
      | zero => omega
      | succ L =>
        cases i with
        | zero => simp only [splice, List.take_succ_cons]; rw [ih cs 0 L (by omega)]
        | succ i => simp only [splice, List.take_succ_cons]; rw [ih (c :: cs) i L (by simp only [List.length_cons]; omega)]

theorem splice_all {p : Value → Bool} : ∀ (us cs : List Value) (i : Nat), us.all p = true → cs.all p = true → (splice us i cs).all p = true := by
  intro us
  induction us with
  | nil => intro cs i h1 h2; cases cs <;> simp [splice]
  | cons u us ih =>
    intro cs i h1 h2
    cases cs with
    | nil => simpa [splice] using h1
    | cons c cs =>
      simp only [List.all_cons, Bool.and_eq_true] at h1 h2
      cases i with
      | zero => simp only [splice, List.all_cons, Bool.and_eq_true]; exact ⟨h2.1, ih cs 0 h1.2 h2.2⟩
      | succ i => simp only [splice, List.all_cons, Bool.and_eq_true]; exact ⟨h1.1, ih (c :: cs) i h1.2 (by simp [h2.1]; simpa using h2.2)⟩

theorem flat_one {v : Value} (h : flatB v = true) : v.oneCell' = true := by cases v <;> first | rfl | (simp [flatB] at h)

theorem all_flat_one {vs : List Value} (h : vs.all flatB = true) : vs.all (·.oneCell') = true := by
  rw [List.all_eq_true] at h ⊢
  exact fun x hx => flat_one (h x hx)

theorem rep_all {p : Value → Bool} {z : List Value} (h : z.all p = true) : ∀ n, (rep z n).all p = true := by
  intro n
  induction n with
  | zero => rfl
  | succ n ih => simp only [rep, List.all_append, h, ih, Bool.and_self]

theorem rep_length (z : List Value) : ∀ n, (rep z n).length = n * z.length := by
  intro n
  induction n with
  | zero => simp [rep]
  | succ n ih => simp only [rep, List.length_append, ih, Nat.succ_mul]; omega

theorem VL.anys {R : RelB} : ∀ {us : List Value}, us.all (·.oneCell') = true → VL R (Go.Am.rep [.chan none] us.length) us := by
  intro us
  induction us with
  | nil => intro _; exact .nil
  | cons u us ih =>
    intro h
    simp only [List.all_cons, Bool.and_eq_true] at h
    exact .cons (.any _ h.1) (ih h.2)

section ops
variable {P : Program} {T : Nat → Option TI} {R : RelB} {N : Nat} {F : BT Value} {t : Array Value} {o : Oper} {W0 : AHeap} {n : Nat} {H : BT XO} {A : AHeap}

def EfPost (W0 : AHeap) (R : RelB) (l : List Eff) (u : Value) (A' : AHeap) : Prop :=
  ∃ e ∈ l, ∃ R' : RelB, (∀ a b c, R a b c → R' a b c) ∧ HX W0 R' e.2.2 e.2.1 A' ∧ VR R' e.1 u

theorem ef_of (hT : TabOk P T) {Hs : Heap} (hs : SL A Hs) {Ke : Value → Heap → Prop} {l : List Eff} (h : opE P T true o (fargs t.toList 0) Hs (fun _ => False) (fun _ _ => False) Ke)
    (hk : ∀ u A' H', SL A' H' → KF A Hs A' H' → Ke u H' → EfPost W0 R l u A') : opA P o t A (EfPost W0 R l) := by
  rcases opE_sound hT h with ⟨s, u, _, hk⟩ | ⟨s, u, _, hk⟩ | ⟨_, ho⟩
  · exact hk.elim
  · exact hk.elim
  · refine SemA.mono (ho A t (tr_fargs t) hs) fun nx A' _ hq => ?_
    cases nx <;> simp only [opNext] at hq ⊢
    case value v => obtain ⟨H', h1, h2, h3⟩ := hq; exact hk _ _ _ h1 h2 h3
    case skip => obtain ⟨H', h1, h2, h3⟩ := hq; exact hk _ _ _ h1 h2 h3
    case enter f args => exact CallA.mono hq fun v A'' _ ⟨H', h1, h2, h3⟩ => hk _ _ _ h1 h2 h3

theorem ef_other {Hs : Heap} (hs : SL A Hs) {Ke : Value → Heap → Prop} {l : List Eff} (h : OtherP P o (fargs t.toList 0) Hs Ke)
    (hk : ∀ u A' H', SL A' H' → KF A Hs A' H' → Ke u H' → EfPost W0 R l u A') : opA P o t A (EfPost W0 R l) := by
  refine SemA.mono (h.h A t (tr_fargs t) hs) fun nx A' _ hq => ?_
  cases nx <;> simp only [opNext] at hq ⊢
  case value v => obtain ⟨H', h1, h2, h3⟩ := hq; exact hk _ _ _ h1 h2 h3
  case skip => obtain ⟨H', h1, h2, h3⟩ := hq; exact hk _ _ _ h1 h2 h3
  case enter f args => exact CallA.mono hq fun v A'' _ ⟨H', h1, h2, h3⟩ => hk _ _ _ h1 h2 h3

theorem sl0 (A : AHeap) : SL A [] := ⟨by simp [keys], fun y hy => by cases hy⟩

/-- what a new block of cells is -/
theorem OR.new {vs us : List Value} {κ es : Nat} {R : RelB} (h : VL R vs us) (h1 : us.all (·.oneCell') = true) : OR R κ (.cells vs es 0 0 false true) (.cells us false true) := by
  have hl := h.length
  exact ⟨us, false, true, rfl, fun _ => rfl, by omega, h1, by rw [hl, List.take_length]; exact h, fun _ => hl.symm, fun e => by cases e⟩

theorem ef_new (hx : HX W0 R n H A) {A' : AHeap} {Hs : Heap} (hs : SL A Hs) {b κ : Nat} {x : XO} {o' : AObj} {v u : Value} (h1 : SL A' ((b, o') :: Hs)) (h2 : KF A Hs A' ((b, o') :: Hs))
    (ho : OR (addR R n b κ) κ x o') (hv : VR (addR R n b κ) v u) : EfPost W0 R [(v, BT.put 32 H n (some x), n + 1)] u A' := by
  obtain ⟨k1, k2, k3, k4⟩ := kf_new hs h1 h2
  exact ⟨_, List.mem_cons_self, addR R n b κ, addR_sub, hx.new k1 k2 k4 (by rw [k3]; exact ho), hv⟩

/-- cells made room for -/
theorem roomX_ok {vs us vs2 : List Value} {es lo hi κ m : Nat} {op : Bool} (h : roomX vs es lo op m = some vs2) (k3 : vs.length ≤ us.length) (k4 : us.all (·.oneCell') = true) (k5 : VL R vs (us.take vs.length))
    (k6 : op = false → us.length = vs.length) (k7 : op = true → us.length = κ * es ∧ lo ≤ κ ∧ (hi = 0 ∨ κ < hi)) :
    m ≤ vs2.length ∧ vs2.length ≤ us.length ∧ VL R vs2 (us.take vs2.length) ∧ (op = false → us.length = vs2.length) := by
  unfold roomX at h
  cases hm : Nat.ble m vs.length with
  | true =>
    rw [hm] at h
    simp only [cond_true, Option.some.injEq] at h; subst h
    exact ⟨ble_le hm, k3, k5, k6⟩
  | false =>
    rw [hm] at h
    simp only [cond_false] at h
    cases hb : (op && Nat.ble m (lo * es)) with
    | false => rw [hb] at h; cases h
    | true =>
      rw [hb] at h
      simp only [cond_true, Option.some.injEq] at h; subst h
      simp only [Bool.and_eq_true] at hb
      obtain ⟨rfl, hb2⟩ := hb
      obtain ⟨e1, e2, _⟩ := k7 rfl
      have hle := ble_le hb2
      have hle2 : lo * es ≤ κ * es := Nat.mul_le_mul_right _ e2
      have hnm : ¬ m ≤ vs.length := fun e => by rw [Nat.ble_eq_true_of_le e] at hm; cases hm
      have hl : (vs ++ rep [.chan none] (m - vs.length)).length = m := by simp [rep_length]; omega
      rw [hl]
      refine ⟨Nat.le_refl _, by omega, ?_, fun e => by cases e⟩
      have e3 : us.take m = us.take vs.length ++ (us.drop vs.length).take (m - vs.length) := by
        rw [← List.take_add]; congr 1; omega
      rw [e3]
      refine k5.append ?_
      have e4 : ((us.drop vs.length).take (m - vs.length)).length = m - vs.length := by simp; omega
      have e5 : ((us.drop vs.length).take (m - vs.length)).all (·.oneCell') = true := by
        rw [List.all_eq_true] at k4 ⊢
        exact fun x hx => k4 x (List.mem_of_mem_drop (List.mem_of_mem_take hx))
      have := VL.anys (R := R) e5
      rwa [e4] at this

/-- cells written over -/
theorem OR.splice {vs us cs ds : List Value} {es lo hi κ i : Nat} {op : Bool} {opr : Bool} (k3 : vs.length ≤ us.length) (k4 : us.all (·.oneCell') = true) (k5 : VL R vs (us.take vs.length))
    (k6 : op = false → us.length = vs.length) (k7 : op = true → us.length = κ * es ∧ lo ≤ κ ∧ (hi = 0 ∨ κ < hi)) (hc : VL R cs ds) (h1 : ds.all (·.oneCell') = true) (hi2 : i + cs.length ≤ vs.length) :
    OR R κ (.cells (Go.Am.splice vs i cs) es lo hi op true) (.cells (Go.Am.splice us i ds) opr true) := by
  have hl := hc.length
  refine ⟨_, opr, true, rfl, fun _ => rfl, by rw [splice_length, splice_length]; exact k3, splice_all _ _ _ k4 h1, ?_, fun e => by rw [splice_length, splice_length]; exact k6 e, fun e => by rw [splice_length]; exact k7 e⟩
  rw [splice_length, splice_take _ _ _ _ (by omega)]
  exact k5.splice hc i

theorem setN_splice {vs cs : List Value} {i : Nat} (h : i + cs.length ≤ vs.length) : SetN vs i cs (Go.Am.splice vs i cs) := by
  have := SetN.of_setL h
  rwa [setL_splice _ _ _ h] at this

/-- cells of a block that was there, written over -/
theorem ef_splice (hx : HX W0 R n H A) {b b' κ : Nat} (hr : R b b' κ) {vs0 vs us cs ds : List Value} {es lo hi i j : Nat} {op opr wr0 : Bool} (hb : H.get b = some (.cells vs0 es lo hi op wr0)) {Hs : Heap} (hs : SL A Hs) (ha : At Hs b' (.cells us opr true) j)
    (k3 : vs.length ≤ us.length) (k4 : us.all (·.oneCell') = true) (k5 : VL R vs (us.take vs.length))
    (k6 : op = false → us.length = vs.length) (k7 : op = true → us.length = κ * es ∧ lo ≤ κ ∧ (hi = 0 ∨ κ < hi)) (hc : VL R cs ds) (h1 : ds.all (·.oneCell') = true) (hi2 : i + cs.length ≤ vs.length)
    {A' : AHeap} (g1 : SL A' (hset Hs j (.cells (splice us i ds) opr true))) (g2 : KF A Hs A' (hset Hs j (.cells (splice us i ds) opr true))) {v u : Value} (hv : VR R v u) :
    EfPost W0 R [(v, BT.put 32 H b (some (.cells (splice vs i cs) es lo hi op true)), n)] u A' := by
  obtain ⟨e1, e2, e3⟩ := kf_set hs ha g1 g2
  refine ⟨_, List.mem_cons_self, R, fun _ _ _ h => h, hx.set hb hr e2 e3 ?_, hv⟩
  rw [e1]
  exact OR.splice k3 k4 k5 k6 k7 hc h1 hi2

set_option maxHeartbeats 1000000 in
theorem ef_store (hT : TabOk P T) (hF : FR R N F t) (hx : HX W0 R n H A) {tt : TypeId} {x y : Operand} {d : Option Tmp} {ty : TypeId} {p : String} {af : Array Edge} {g : Option (Nat × Bool)} {l : List Eff}
    (h : efOp T ⟨d, .store tt x y, ty, p, af, g⟩ F H n = some l) : opA P ⟨d, .store tt x y, ty, p, af, g⟩ t A (EfPost W0 R l) := by
  simp only [efOp] at h
  split at h
  · rename_i b ofs hxx
    split at h
    · rename_i v hv
      obtain ⟨ux, h1, h2⟩ := opvX_ok hF hxx
      obtain ⟨b', κ, h3, rfl⟩ := h2.ptr_inv
      obtain ⟨uv, h4, h5⟩ := opvX_ok hF hv
      split at h
      · rename_i ti vs es lo hi op hti hb
        cases hg : (Nat.beq (valCells v).length ti.size && (valCells v).all (·.oneCell')) with
        | false => rw [hg] at h; cases h
        | true =>
          rw [hg] at h
          simp only [cond_true] at h
          split at h
          · rename_i vs2 hvs2
            simp only [Option.some.injEq] at h; subst h
            simp only [Bool.and_eq_true] at hg
            have hsz := Nat.eq_of_beq_eq_true hg.1
            obtain ⟨us, opr, wr', k1, k2, k3, k4, k5, k6, k7⟩ := hx.cells h3 hb
            obtain rfl := k2 rfl
            obtain ⟨r1, r2, r3, r4⟩ := roomX_ok hvs2 k3 k4 k5 k6 k7
            have hc := h5.cells
            have hcl := hc.length
            have hone := hc.all_one hg.2
            refine ef_of hT (sl1 k1 (hx.lt _ _ _ h3).2) (Ke := fun u H' => u = undef ∧ H' = hset [(b', .cells us opr true)] 0 (.cells (splice us ofs (valCells uv)) opr true)) ?_ ?_
            · simp only [opE, withV, h1, h4, hti]
              exact ⟨us, _, opr, _, by rw [← hcl, hsz], setN_splice (by omega), hone, .here, (by first | exact ⟨rfl, rfl⟩ | exact ⟨trivial, rfl⟩)⟩
            · rintro u A' H' g1 g2 ⟨rfl, rfl⟩
              exact ef_splice hx h3 hb (sl1 k1 (hx.lt _ _ _ h3).2) .here r2 k4 r3 r4 k7 hc hone r1 g1 g2 .undef
          · cases h
      · cases h
    · cases h
  · cases h

theorem VR.newPtr {b κ : Nat} : VR (addR R n b κ) (.pointer (some ⟨n, 0, none⟩)) (.pointer (some ⟨b, 0, none⟩)) := .ptr addR_new

set_option maxHeartbeats 1000000 in
theorem ef_alloc (hT : TabOk P T) (hx : HX W0 R n H A) {tt : TypeId} {d : Option Tmp} {ty : TypeId} {p : String} {af : Array Edge} {g : Option (Nat × Bool)} {l : List Eff}
    (h : efOp T ⟨d, .alloc tt, ty, p, af, g⟩ F H n = some l) : opA P ⟨d, .alloc tt, ty, p, af, g⟩ t A (EfPost W0 R l) := by
  simp only [efOp] at h
  split at h
  · rename_i ti hti
    cases hz : ti.zero.all flatB with
    | false => rw [hz] at h; cases h
    | true =>
      rw [hz] at h
      simp only [cond_true, Option.some.injEq] at h; subst h
      refine ef_of hT (sl0 A) (Ke := fun u H' => ∃ b, u = .pointer (some ⟨b, 0, none⟩) ∧ H' = [(b, .cells ti.zero false true)]) ?_ ?_
      · simp only [opE, hti]
        exact fun b => ⟨b, rfl, rfl⟩
      · rintro u A' H' g1 g2 ⟨b, rfl, rfl⟩
        exact ef_new hx (sl0 A) (κ := 0) g1 g2 (OR.new (.refl_flat hz) (all_flat_one hz)) .newPtr
  · cases h

set_option maxHeartbeats 1000000 in
theorem ef_box (hT : TabOk P T) (hF : FR R N F t) (hx : HX W0 R n H A) {tt : TypeId} {x : Operand} {d : Option Tmp} {ty : TypeId} {p : String} {af : Array Edge} {g : Option (Nat × Bool)} {l : List Eff}
    (h : efOp T ⟨d, .box tt x, ty, p, af, g⟩ F H n = some l) : opA P ⟨d, .box tt x, ty, p, af, g⟩ t A (EfPost W0 R l) := by
  simp only [efOp] at h
  split at h
  · rename_i v hv
    obtain ⟨uv, h4, h5⟩ := opvX_ok hF hv
    cases hz : (valCells v).all (·.oneCell') with
    | false => rw [hz] at h; cases h
    | true =>
      rw [hz] at h
      simp only [cond_true, Option.some.injEq] at h; subst h
      refine ef_of hT (sl0 A) (Ke := fun u H' => ∃ b, u = .pointer (some ⟨b, 0, none⟩) ∧ H' = [(b, .cells (valCells uv) false true)]) ?_ ?_
      · simp only [opE, withV, h4]
        exact fun b => ⟨b, rfl, rfl⟩
      · rintro u A' H' g1 g2 ⟨b, rfl, rfl⟩
        exact ef_new hx (sl0 A) (κ := 0) g1 g2 (OR.new (h5.cells.mono addR_sub) (h5.cells.all_one hz)) .newPtr
  · cases h

theorem SemA.congr {α : Type} {s s' : Sem α} {Q : α → AHeap → Prop} (h : ∀ w, HR A w → s.run P w = s'.run P w) (hs : SemA P s' A Q) : SemA P s A Q := by
  intro w hw
  rw [h w hw]; exact hs w hw

theorem OtherP.of_run {Fr0 : Fr} {Hs : Heap} {K : Value → Heap → Prop} {s : Sem Next} (h : ∀ A, SL A Hs → ∀ t, TR Fr0 t → ∀ w, HR A w → (execOp (Act.eval ⟨t, []⟩) o).run P w = s.run P w)
    (hw : ∀ A, SL A Hs → SemA P s A (opNext P fun v A' => ∃ H', SL A' H' ∧ KF A Hs A' H' ∧ K v H')) : OtherP P o Fr0 Hs K :=
  ⟨fun A t ht hA => SemA.congr (fun w hw => h A hA t ht w hw) (hw A hA)⟩

theorem OtherP.of_wp {Fr0 : Fr} {Hs : Heap} {K : Value → Heap → Prop} {s : Sem Next} (h : ∀ A, SL A Hs → ∀ t, TR Fr0 t → ∀ w, HR A w → (execOp (Act.eval ⟨t, []⟩) o).run P w = s.run P w)
    (hw : ∀ A, SL A Hs → wpA P s A (fun nx A' => ∃ v, nx = .value v ∧ ∃ H', SL A' H' ∧ KF A Hs A' H' ∧ K v H')) : OtherP P o Fr0 Hs K := by
  refine .of_run h fun A hA => (SemA.of_wp (hw A hA)).mono ?_
  rintro nx A' _ ⟨v, rfl, h⟩
  exact h

theorem OtherP.buildSlice0 {tt e : TypeId} {ti te : TI} {Fr0 : Fr} {Hs : Heap} {d : Option Tmp} {ty : TypeId} {p : String} {af : Array Edge} {g : Option (Nat × Bool)} {K : Value → Heap → Prop} (hT : TiSpec P tt ti) (hd : ti.desc = .slice e) (hte : TiSpec P e te)
    (hk : ∀ b, K (.slice (some ⟨b, 0, none⟩) 0 0) ((b, .cells [] false true) :: Hs)) : OtherP P ⟨d, .buildSlice tt 0 #[], ty, p, af, g⟩ Fr0 Hs K := by
  obtain ⟨inf, z, hi, hsz, hzz, hc⟩ := hte.info
  have hu := hT.und
  rw [hd] at hu
  refine OtherP.of_wp (s := do let r ← newObj (.cells #[] e); pure (.value (.slice (some ⟨r, 0, none⟩) 0 0))) (fun A _ t _ w _ => ?_) fun A hH => ?_
  · have e0 : (Array.map (fun _ : Nat => (default : Value)) (Array.range 0)) = #[] := by apply Array.ext'; simp
    simp [execOp, Instr.buildSlice, sizeOf, typeInfo, underlying, hi, hu, Instr.fill, newRow, e0]
  · simp only [newObj, wpA_bind, wpA_pure, wpA, of_new]
    obtain ⟨k1, k2⟩ := hH.push (.cells [] false true)
    exact ⟨_, rfl, _, k1, k2, hk _⟩

end ops
end Go.Am

namespace Go.Am
open Go

section ops
variable {P : Program} {T : Nat → Option TI} {R : RelB} {N : Nat} {F : BT Value} {t : Array Value} {o : Oper} {W0 : AHeap} {n : Nat} {H : BT XO} {A : AHeap} {d : Option Tmp} {ty : TypeId} {p : String} {af : Array Edge} {g : Option (Nat × Bool)} {l : List Eff}

set_option maxHeartbeats 1000000 in
theorem ef_buildSlice (hT : TabOk P T) (hF : FR R N F t) (hx : HX W0 R n H A) {tt : TypeId} {len : Nat} {ps : Array (Nat × Operand)}
    (h : efOp T ⟨d, .buildSlice tt len ps, ty, p, af, g⟩ F H n = some l) : opA P ⟨d, .buildSlice tt len ps, ty, p, af, g⟩ t A (EfPost W0 R l) := by
  obtain ⟨ps⟩ := ps
  simp only [efOp] at h
  split at h
  · rename_i q hq
    obtain ⟨q', h1, h2⟩ := partsX_ok hF hq
    split at h
    · rename_i ti hti
      split at h
      · rename_i e hd
        split at h
        · rename_i te hte
          cases h0 : Nat.beq len 0 with
          | true =>
            rw [h0] at h
            simp only [cond_true] at h
            split at h
            · simp only [Option.some.injEq] at h; subst h
              obtain rfl := Nat.eq_of_beq_eq_true h0
              have hps : ps = [] := by
                cases ps with
                | nil => rfl
                | cons x ps =>
                  obtain ⟨i, x⟩ := x
                  simp only [partsX] at hq
                  split at hq
                  · split at hq <;> cases hq
                  · cases hq
              subst hps
              refine ef_other (sl0 A) (Ke := fun u H' => ∃ b, u = .slice (some ⟨b, 0, none⟩) 0 0 ∧ H' = [(b, .cells [] false true)]) (OtherP.buildSlice0 (hT.spec hti) hd (hT.spec hte) fun b => ⟨b, rfl, rfl⟩) ?_
              rintro u A' H' g1 g2 ⟨b, rfl, rfl⟩
              exact ef_new hx (sl0 A) (κ := 0) g1 g2 (OR.new .nil rfl) (.slice addR_new (by decide))
            · cases h
          | false =>
            rw [h0] at h
            simp only [cond_false] at h
            cases hb : (te.zero.all flatB && Nat.beq te.zero.length te.size && Nat.ble 1 te.size && Nat.ble 1 len && Nat.ble (len * te.size) 16777216) with
            | false => rw [hb] at h; cases h
            | true =>
              rw [hb] at h
              simp only [cond_true] at h
              simp only [Bool.and_eq_true] at hb
              obtain ⟨⟨⟨⟨hz, hb1⟩, hb2⟩, hb3⟩, hb4⟩ := hb
              split at h
              · rename_i r hr
                have hrep : VL R (rep te.zero len) (rep te.zero len) := (VL.refl_flat hz).rep len
                obtain ⟨r', h3, h4⟩ := fillL_ok h2 hrep hr
                cases hone : r.all (·.oneCell') with
                | false => rw [hone] at h; cases h
                | true =>
                  rw [hone] at h
                  simp only [cond_true, Option.some.injEq] at h; subst h
                  refine ef_of hT (sl0 A) (Ke := fun u H' => ∃ b, u = .slice (some ⟨b, 0, none⟩) len len ∧ H' = [(b, .cells r' false true)]) ?_ ?_
                  · simp only [opE]
                    refine withP_of h1 ?_
                    simp only [hti, hd, hte, hb1, hb2, hb3, hb4, Bool.and_self, cond_true]
                    exact fillK_of h3 fun b => ⟨b, rfl, rfl⟩
                  · rintro u A' H' g1 g2 ⟨b, rfl, rfl⟩
                    have hle : len ≤ 16777216 := by
                      have h5 := ble_le hb4
                      have h6 := ble_le hb2
                      have : len * 1 ≤ len * te.size := Nat.mul_le_mul_left _ h6
                      omega
                    exact ef_new hx (sl0 A) (κ := 0) g1 g2 (OR.new (h4.mono addR_sub) (h4.all_one hone)) (.slice addR_new (by unfold bigU; omega))
              · cases h
        · cases h
      · cases h
    · cases h
  · cases h

set_option maxHeartbeats 1000000 in
theorem ef_makeMap (hx : HX W0 R n H A) {tt : TypeId} {rv : Option Operand}
    (h : efOp T ⟨d, .makeMap tt rv, ty, p, af, g⟩ F H n = some l) : opA P ⟨d, .makeMap tt rv, ty, p, af, g⟩ t A (EfPost W0 R l) := by
  cases rv with
  | some _ => simp [efOp] at h
  | none =>
    simp only [efOp] at h
    split at h
    · split at h
      · simp only [Option.some.injEq] at h; subst h
        refine ef_other (sl0 A) (Ke := fun u H' => ∃ b, u = .map (some b) ∧ H' = [(b, .obj (mapObj [] 0) true)]) (OtherP.makeMap fun b => ⟨b, rfl, rfl⟩) ?_
        rintro u A' H' g1 g2 ⟨b, rfl, rfl⟩
        exact ef_new hx (sl0 A) (κ := 0) g1 g2 ⟨[], rfl, .nil⟩ (.map addR_new)
      · cases h
    · cases h

theorem EL.set {l l' : List Ent} (h : EL R l l') (k : BS) {v u : Value} (hv : VR R v u) : EL R (lset l k v) (lset l' k u) := by
  induction h with
  | nil => exact .nil
  | cons hw hs ih =>
    simp only [lset]
    split
    · exact .cons hv hs
    · exact .cons hw ih

theorem EL.append {l l' m m' : List Ent} (h : EL R l l') (k : EL R m m') : EL R (l ++ m) (l' ++ m') := by
  induction h with
  | nil => exact k
  | cons hw _ ih => exact .cons hw ih

theorem EL.put {l l' : List Ent} (h : EL R l l') (c : Nat) (k : BS) {v u : Value} (hv : VR R v u) : EL R (lput l c k v).1 (lput l' c k u).1 ∧ (lput l c k v).2 = (lput l' c k u).2 := by
  unfold lput
  rcases h.find k 0 with ⟨h1, h2⟩ | ⟨j, w, x, h1, h2, h3⟩
  · rw [h1, h2]
    simp only [Option.isSome_none, Bool.false_eq_true, if_false]
    exact ⟨h.append (.cons hv .nil), trivial⟩
  · rw [h1, h2]
    simp only [Option.isSome_some, if_true]
    exact ⟨h.set k hv, trivial⟩

set_option maxHeartbeats 1000000 in
theorem ef_mapUpdate (hT : TabOk P T) (hF : FR R N F t) (hx : HX W0 R n H A) {tt : TypeId} {x y z : Operand}
    (h : efOp T ⟨d, .mapUpdate tt x y z, ty, p, af, g⟩ F H n = some l) : opA P ⟨d, .mapUpdate tt x y z, ty, p, af, g⟩ t A (EfPost W0 R l) := by
  simp only [efOp] at h
  split at h
  · rename_i r hr
    obtain ⟨u1, h1, h2⟩ := opvX_ok hF hr
    obtain ⟨b', κ, h3, rfl⟩ := h2.map_inv
    split at h
    · rename_i s hs
      obtain ⟨u2, h4, h5⟩ := opvX_ok hF hs
      obtain rfl := h5.string
      rw [S_eta] at h4
      split at h
      · rename_i v hv
        obtain ⟨u3, h6, h7⟩ := opvX_ok hF hv
        split at h
        · rename_i ti m c hti hb
          split at h
          · rename_i kt et hd
            split at h
            · rename_i tk htk
              split at h
              · rename_i hdk
                simp only [Option.some.injEq] at h; subst h
                obtain ⟨m', k1, k2⟩ := hx.map h3 hb
                obtain ⟨e1, e2⟩ := k2.put c s.data.toList h7
                refine ef_other (sl1 k1 (hx.lt _ _ _ h3).2) (Ke := fun u H' => u = undef ∧ H' = hset [(b', .obj (mapObj m' c) true)] 0 (.obj (mapObj (lput m' c s.data.toList u3).1 (lput m' c s.data.toList u3).2) true))
                  (OtherP.mapUpdate (hT.spec hti) hd (hT.spec htk) hdk h1 h4 h6 .here ⟨rfl, rfl⟩) ?_
                rintro u A' H' g1 g2 ⟨rfl, rfl⟩
                obtain ⟨f1, f2, f3⟩ := kf_set (sl1 k1 (hx.lt _ _ _ h3).2) .here g1 g2
                exact ⟨_, List.mem_cons_self, R, fun _ _ _ h => h, hx.set hb h3 f2 f3 (by rw [f1, e2]; exact ⟨_, rfl, e1⟩), .undef⟩
              · cases h
            · cases h
          · cases h
        · cases h
      · cases h
    · cases h
  · cases h

theorem all_u8 (s : BS) : (s.map u8).all flatB = true := by
  rw [List.all_eq_true]
  intro x hx
  obtain ⟨c, _, rfl⟩ := List.mem_map.1 hx
  rfl

set_option maxHeartbeats 1000000 in
theorem ef_convert (hT : TabOk P T) (hF : FR R N F t) (hx : HX W0 R n H A) {src dst : TypeId} {x : Operand}
    (h : efOp T ⟨d, .convert src dst x, ty, p, af, g⟩ F H n = some l) : opA P ⟨d, .convert src dst x, ty, p, af, g⟩ t A (EfPost W0 R l) := by
  simp only [efOp] at h
  split at h
  · rename_i s hs
    obtain ⟨u2, h4, h5⟩ := opvX_ok hF hs
    obtain rfl := h5.string
    rw [S_eta] at h4
    split at h
    · rename_i ts td hts htd
      split at h
      · rename_i e hd1 hd2
        split at h
        · rename_i te hte
          split at h
          · rename_i hde
            simp only [Option.some.injEq] at h; subst h
            refine ef_other (sl0 A) (Ke := fun u H' => ∃ b sp, u = .slice (some ⟨b, 0, none⟩) s.data.toList.length (s.data.toList.length + sp) ∧ H' = [(b, .cells (s.data.toList.map u8 ++ List.replicate sp (.int .u8 0)) false false)])
              (OtherP.toBytes (hT.spec hts) hd1 (hT.spec htd) hd2 (hT.spec hte) hde h4 fun b sp => ⟨b, sp, rfl, rfl⟩) ?_
            rintro u A' H' g1 g2 ⟨b, sp, rfl, rfl⟩
            refine ef_new hx (sl0 A) (κ := s.data.toList.length + sp) g1 g2 ?_ ?_
            · refine ⟨_, false, false, rfl, fun h => h, by simp, ?_, ?_, (fun e => by cases e), fun _ => ⟨by simp, by omega, .inl rfl⟩⟩
              · rw [List.all_append, Bool.and_eq_true]
                exact ⟨all_flat_one (all_u8 _), by rw [List.all_eq_true]; intro x hx; rw [List.eq_of_mem_replicate hx]; rfl⟩
              · rw [List.take_left]; exact .refl_flat (all_u8 _)
            · have := VR.sliceU (R := addR R n b (s.data.toList.length + sp)) (o := 0) (l := s.data.toList.length) (k := 0) addR_new (by omega)
              simpa using this
          · cases h
        · cases h
      · cases h
    · cases h
  · cases h

set_option maxHeartbeats 1000000 in
theorem ef_gtr (hF : FR R N F t) (hx : HX W0 R n H A) {tt yt : TypeId} {x y : Operand} {op : BinOp}
    (h : efOp T ⟨d, .binOp op tt x y yt, ty, p, af, g⟩ F H n = some l) : opA P ⟨d, .binOp op tt x y yt, ty, p, af, g⟩ t A (EfPost W0 R l) := by
  cases op <;> first | (simp [efOp] at h; done) | skip
  simp only [efOp] at h
  split at h
  · rename_i m hm
    obtain ⟨u1, h1, h2⟩ := opvX_ok hF hm
    obtain rfl := h2.int
    split at h
    · rename_i b k hk
      obtain ⟨u2, h3, h4⟩ := opvX_ok hF hk
      obtain ⟨b', κ, h5, h6, rfl⟩ := h4.capv_inv
      split at h
      · rename_i vs es lo hi wr hb
        simp only [Option.some.injEq] at h; subst h
        obtain ⟨us, opr, wr', k1, k2, k3, k4, k5, k6, k7⟩ := hx.cells h5 hb
        obtain ⟨e1, e2, e3⟩ := k7 rfl
        have hp := pureS_bin (P := P) (d := d) (T := tt) (ty := ty) (p := p) (af := af) (g := g) (yt := yt) (op := .gtr) h1 h3 rfl
        have hsem : SemR P (execOp (Act.eval ⟨t, []⟩) ⟨d, .binOp .gtr tt x y yt, ty, p, af, g⟩) A (.value (.bool (decide ((Int.ofNat m) > ((κ - k : Nat) : Int))))) := by
          rw [hp.1 t (tr_fargs t)]; exact hp.2 A
        refine hsem.sem ?_
        simp only [opNext]
        by_cases hgt : (m : Int) > ((κ - k : Nat) : Int)
        · refine ⟨_, List.mem_cons_self, R, fun _ _ _ h => h, hx.set hb h5 (Nat.le_refl _) (fun _ _ _ => rfl) ?_, ?_⟩
          · rw [k1]
            exact ⟨us, opr, wr', rfl, k2, k3, k4, k5, k6, fun _ => ⟨e1, e2, .inr (by omega)⟩⟩
          · have : decide ((Int.ofNat m) > ((κ - k : Nat) : Int)) = true := decide_eq_true hgt
            rw [this]; exact .flat _ rfl
        · refine ⟨_, List.mem_cons_of_mem _ List.mem_cons_self, R, fun _ _ _ h => h, hx.set hb h5 (Nat.le_refl _) (fun _ _ _ => rfl) ?_, ?_⟩
          · rw [k1]
            exact ⟨us, opr, wr', rfl, k2, k3, k4, k5, k6, fun _ => ⟨e1, by omega, e3⟩⟩
          · have : decide ((Int.ofNat m) > ((κ - k : Nat) : Int)) = false := decide_eq_false hgt
            rw [this]; exact .flat _ rfl
      · cases h
    · cases h
  · cases h

end ops
end Go.Am

namespace Go.Am
open Go

theorem At_of_mem {H : Heap} {b : Nat} {o : AObj} (h : (b, o) ∈ H) : ∃ i, At H b o i := by
  induction H with
  | nil => cases h
  | cons x H ih =>
    rcases List.mem_cons.1 h with h | h
    · subst h; exact ⟨0, .here⟩
    · obtain ⟨i, hi⟩ := ih h; exact ⟨i + 1, .there hi⟩

theorem hsOf {A : AHeap} : ∀ (B : List Nat), (∀ b ∈ B, b < A.next) → ∃ Hs, SL A Hs ∧ ∀ b ∈ B, ∃ i, At Hs b (A.get b) i := by
  intro B
  induction B with
  | nil => intro _; exact ⟨[], sl0 A, fun b hb => by cases hb⟩
  | cons b B ih =>
    intro hB
    obtain ⟨Hs, h1, h2⟩ := ih fun c hc => hB c (List.mem_cons_of_mem _ hc)
    by_cases hk : b ∈ keys Hs
    · refine ⟨Hs, h1, fun c hc => ?_⟩
      rcases List.mem_cons.1 hc with rfl | hc
      · obtain ⟨⟨c', x⟩, hm, rfl⟩ := List.mem_map.1 hk
        have := (h1.2 _ hm).1
        simp only at this
        simp only
        rw [this]
        exact At_of_mem hm
      · exact h2 c hc
    · refine ⟨(b, A.get b) :: Hs, ⟨?_, ?_⟩, fun c hc => ?_⟩
      · simp only [keys, List.map_cons, List.nodup_cons]; exact ⟨hk, h1.1⟩
      · intro x hx
        rcases List.mem_cons.1 hx with rfl | hx
        · exact ⟨rfl, hB _ List.mem_cons_self⟩
        · exact h1.2 x hx
      · rcases List.mem_cons.1 hc with rfl | hc
        · exact ⟨0, .here⟩
        · obtain ⟨i, hi⟩ := h2 c hc; exact ⟨i + 1, .there hi⟩

theorem splice_take_end : ∀ (us ds : List Value) (i : Nat), i + ds.length ≤ us.length → (splice us i ds).take (i + ds.length) = us.take i ++ ds := by
  intro us
  induction us with
  | nil =>
    intro ds i h
    cases ds with
    | nil => simp [splice]
    | cons d ds => simp at h
  | cons u us ih =>
    intro ds i h
    cases ds with
    | nil => simp [splice]
    | cons d ds =>
      simp only [List.length_cons] at h
      cases i with
      | zero =>
        have := ih ds 0 (by omega)
        simp only [Nat.zero_add, List.take_zero, List.nil_append] at this
        simp only [splice, List.length_cons, Nat.zero_add, List.take_succ_cons, List.take_zero, List.nil_append, this]
      | succ i =>
        have := ih (d :: ds) i (by simp only [List.length_cons]; omega)
        rw [show i + 1 + (d :: ds).length = (i + (d :: ds).length) + 1 by omega]
        simp only [splice, List.take_succ_cons, List.cons_append]
        rw [this]

section ops
variable {P : Program} {T : Nat → Option TI} {R : RelB} {N : Nat} {F : BT Value} {t : Array Value} {o : Oper} {W0 : AHeap} {n : Nat} {H : BT XO} {A : AHeap} {d : Option Tmp} {ty : TypeId} {p : String} {af : Array Edge} {g : Option (Nat × Bool)} {l : List Eff}

def appCoreG (inf : TypeInfo) (z : Value) (e : TypeId) (base : Option Addr) (sLen sCap : Nat) (n : Nat) (ap : Sem (Array Value)) : Sem Value :=
  if sLen + n ≤ sCap then do
    let new ← ap
    match base with
    | some a => do storeCells (a.add (sLen * inf.size)) new.toList; pure (.slice base (sLen + n) sCap)
    | none => pure (.slice base (sLen + n) sCap)
  else do
    let newCap ← choose (.appendCap (sLen + n) sCap e)
    askRoom (newCap * inf.bytes)
    let old ← Builtin.firstCells inf.size sLen (.slice base sLen sCap)
    let new ← ap
    let r ← newObj (.cells (old ++ new ++ Builtin.zeroCells z.cells (newCap - (sLen + n))) e)
    pure (.slice (some ⟨r, 0, none⟩) (sLen + n) newCap)

theorem OtherP.appG {x y : Operand} {sT xT e : TypeId} {te : TI} {base : Option Addr} {sLen sCap n : Nat} {vy : Value} {news olds : List Value} {inf : TypeInfo} {z : Value} {ap : Sem (Array Value)} {F : Fr} {H : Heap} {K : Value → Heap → Prop}
    (hsz : inf.size = te.size) (hzc : z.cells.toList = te.zero)
    (hx : opv F x = some (.slice base sLen sCap)) (hy : opv F y = some vy) (hap : ∀ A, SL A H → SemR P ap A news.toArray)
    (hrun : ∀ A, SL A H → ∀ w, HR A w → (Builtin.append_ #[sT, xT] ty #[.slice base sLen sCap, vy]).run P w = (appCoreG inf z e base sLen sCap n ap).run P w)
    (hin : sLen + n ≤ sCap → (base = none ∧ K (.slice none (sLen + n) sCap) H) ∨
      ∃ b o vs vs' op H', base = some ⟨b, o, none⟩ ∧ SetN vs (o + sLen * te.size) news vs' ∧ news.all (·.oneCell') = true ∧ Upd H b (.cells vs op true) (.cells vs' op true) H' ∧ K (.slice base (sLen + n) sCap) H')
    (hout : sCap < sLen + n → SrcOk H te.size (.slice base sLen sCap) sLen olds ∧ ∀ b sp, K (.slice (some ⟨b, 0, none⟩) (sLen + n) (sLen + n + sp)) ((b, .cells (olds ++ news ++ rep te.zero sp) false true) :: H)) :
    OtherP P ⟨d, .call { callee := .builtin .append, args := #[x, y], argTypes := #[sT, xT] }, ty, p, af, g⟩ F H K := by
  refine ⟨fun A t hF hA => ?_⟩
  unfold opA
  have hev : execOp (Act.eval ⟨t, []⟩) ⟨d, .call { callee := .builtin .append, args := #[x, y], argTypes := #[sT, xT] }, ty, p, af, g⟩ = (do pure (.value (← Builtin.append_ #[sT, xT] ty #[.slice base sLen sCap, vy]))) := by
    simp only [execOp, resolve]
    simp [opv_eval hF hx, opv_eval hF hy, invoke, builtin]
  rw [hev]
  have hfc := hap A hA
  have core : SemA P (appCoreG inf z e base sLen sCap n ap) A (fun v A' => ∃ H', SL A' H' ∧ KF A H A' H' ∧ K v H') := by
    unfold appCoreG
    split
    · rename_i hcap
      rcases hin hcap with ⟨rfl, hk⟩ | ⟨b, o, vs, vs', op, H', rfl, hset, h1, hup, hk⟩
      · exact hfc.semA.bind fun _ A' _ ⟨h1, _⟩ => by subst h1; exact SemA.of_wp ⟨H, hA, .refl _ _, hk⟩
      · obtain ⟨i, ha, rfl⟩ := hup.at
        have h2 := hset.eq
        refine hfc.semA.bind fun c A' _ ⟨hA', hc⟩ => ?_
        subst hA'; subst hc
        show SemA P (do storeCells (Addr.add ⟨b, o, none⟩ (sLen * inf.size)) news.toArray.toList; pure (Value.slice (some ⟨b, o, none⟩) (sLen + n) sCap)) _ _
        rw [addr_add, hsz]
        refine SemA.of_wp ?_
        rw [wpA_bind]
        refine wpA_storeCells news vs 0 A' (hA.at ha) (fun h => by simpa using h2.2 h) h1 ?_
        rw [Nat.add_zero, h2.1]
        obtain ⟨k1, k2⟩ := hA.set ha (.cells vs' op true)
        exact ⟨_, k1, k2, hk⟩
    · rename_i hcap
      obtain ⟨hsrc2, hk⟩ := hout (by omega)
      have hfc2 := semR_firstCells (P := P) hA hsrc2
      rw [← hsz] at hfc2
      refine (semA_appendCap _ _ _).bind fun nc A1 _ ⟨h1, sp, hsp⟩ => ?_
      subst h1; subst hsp
      refine (semA_askRoom _).bind fun _ A1 _ h1 => ?_
      subst h1
      refine hfc2.semA.bind fun c A1 _ ⟨h1, h2⟩ => ?_
      subst h1; subst h2
      refine hfc.semA.bind fun c A1 _ ⟨h1, h2⟩ => ?_
      subst h1; subst h2
      refine SemA.of_wp ?_
      simp only [newObj, wpA_bind, wpA]
      have hcells : AObj.of (.cells (olds.toArray ++ news.toArray ++ Builtin.zeroCells z.cells (sLen + n + sp - (sLen + n))) e) = .cells (olds ++ news ++ rep te.zero sp) false true := by
        rw [of_new]
        have := zeroCells_rep te.zero z hzc sp
        simp [this]
      rw [hcells]
      obtain ⟨k1, k2⟩ := hA.push (.cells (olds ++ news ++ rep te.zero sp) false true)
      exact ⟨_, k1, k2, hk _ _⟩
  intro w hw
  obtain ⟨v, A', w', hr, h1, h2, h3⟩ := core w hw
  refine ⟨.value v, A', w', ?_, h1, h2, h3⟩
  rw [Sem.run_bind, hrun A hA w hw, hr]
  rfl

theorem append_coreZ {sT xT e : TypeId} {k : IntKind} {base : Option Addr} {sLen sCap n : Nat} {inf : TypeInfo} {z : Value} {w : World}
    (hu : P.underlying sT = some (.slice e)) (hxu : P.underlying xT = some (.int k)) (hi : P.info? e = some inf) (hzz : inf.zero = some z)
    (hneed : (sLen + n : Nat) ≤ 2 ^ 48) (hb1 : n * inf.bytes ≤ 2 ^ 48) (hpos : 0 < inf.bytes) (hbig : sCap < sLen + n → Builtin.nextslicecap (sLen + n) sCap * inf.bytes ≤ 2 ^ 48) :
    (Builtin.append_ #[sT, xT] ty #[.slice base sLen sCap, .int .i64 (n : Int)]).run P w =
      (appCoreG inf z e base sLen sCap n (if n * inf.size = 0 then pure #[] else pure (Builtin.zeroCells z.cells n))).run P w := by
  have hw : IntKind.i64.wrap (n : Int) = n := wrap_i64 (by omega) (by omega)
  have h0 : ¬ (9223372036854775807 : Int) < (sLen : Int) + n := by omega
  have h1 : ¬ ((n : Int) * inf.bytes > 281474976710656) := by
    have : ((n * inf.bytes : Nat) : Int) ≤ 281474976710656 := by omega
    simpa using this
  have h2 : ¬ (281474976710656 : Int) < (n : Int) * inf.bytes := h1
  have h3 : ¬ inf.bytes = 0 := by omega
  have h4 : ¬ (n : Int) < 0 := by omega
  by_cases hc : sLen + n ≤ sCap
  · by_cases hz : n * inf.size = 0
    · cases base <;> simp [Builtin.append_, appCoreG, underlying, hu, sizeOf, typeInfo, hi, hxu, hc, asInt, asIntOf, hw, h2, h4, hz, zeroValue, hzz]
    · cases base <;> simp [Builtin.append_, appCoreG, underlying, hu, sizeOf, typeInfo, hi, hxu, hc, asInt, asIntOf, hw, h2, h4, hz, zeroValue, hzz]
  · have hb := hbig (by omega)
    have hb' : ¬ (281474976710656 < Builtin.nextslicecap (sLen + n) sCap * inf.bytes) := by omega
    by_cases hz : n * inf.size = 0
    · cases base <;> simp [Builtin.append_, appCoreG, underlying, hu, sizeOf, typeInfo, hi, hxu, hc, asInt, asIntOf, hw, h2, h4, hz, zeroValue, hzz, newRow, hb', h0]
    · cases base <;> simp [Builtin.append_, appCoreG, underlying, hu, sizeOf, typeInfo, hi, hxu, hc, asInt, asIntOf, hw, h2, h4, hz, zeroValue, hzz, newRow, hb', h0]

theorem run_appCoreG (inf : TypeInfo) (z : Value) (e : TypeId) (base : Option Addr) (sLen sCap : Nat) (vy : Value) (n : Nat) (w : World) :
    (appCore inf z e base sLen sCap vy n).run P w = (appCoreG inf z e base sLen sCap n (Builtin.firstCells inf.size n vy)).run P w := rfl

/-- what is appended, of memory or not -/
theorem srcX_ok (hx : HX W0 R n H A) {size m : Nat} {v u : Value} {news : List Value} (h : srcX H size v = some (m, news)) (hv : VR R v u) :
    ∃ (news' : List Value) (B : List Nat), VL R news news' ∧ news'.length = m * size ∧ (∀ b ∈ B, b < A.next) ∧ ∀ Hs, (∀ b ∈ B, ∃ i, At Hs b (A.get b) i) → SrcOk Hs size u m news' := by
  unfold srcX at h
  split at h
  · rename_i c
    obtain rfl := hv.flat_eq rfl
    simp only [Option.some.injEq, Prod.mk.injEq] at h
    obtain ⟨rfl, rfl⟩ := h
    exact ⟨[], [], .nil, by simp, (fun b hb => by cases hb), fun Hs _ => .inl ⟨c, rfl, rfl, rfl⟩⟩
  · rename_i b o c
    obtain ⟨_, b', κ, o', c', h3, rfl⟩ := hv.sliceE_inv
    split at h
    · rename_i vs es lo hi op wr hb
      simp only [Option.some.injEq, Prod.mk.injEq] at h
      obtain ⟨rfl, rfl⟩ := h
      obtain ⟨us, opr, wr', k1, _⟩ := hx.cells h3 hb
      refine ⟨[], [b'], .nil, by simp, fun b hb => by simp only [List.mem_singleton] at hb; subst hb; exact (hx.lt _ _ _ h3).2, fun Hs hHs => ?_⟩
      obtain ⟨i, hi⟩ := hHs b' (by simp)
      rw [k1] at hi
      exact .inr (.inl ⟨b', o', c', us, opr, wr', i, rfl, hi, by simp, by simp⟩)
    · cases h
  · rename_i b o q c
    obtain ⟨b', κ, c', h3, rfl, _⟩ := hv.slice_inv
    split at h
    · rename_i vs es lo hi op wr hb
      cases hle : Nat.ble (o + q * size) vs.length with
      | false => rw [hle] at h; cases h
      | true =>
        rw [hle] at h
        simp only [cond_true, Option.some.injEq, Prod.mk.injEq] at h
        obtain ⟨rfl, rfl⟩ := h
        obtain ⟨us, opr, wr', k1, k2, k3, k4, k5, k6, k7⟩ := hx.cells h3 hb
        obtain ⟨h4, h5⟩ := cells_sub k5 k3 (ble_le hle)
        refine ⟨_, [b'], h4, h5, fun b hb => by simp only [List.mem_singleton] at hb; subst hb; exact (hx.lt _ _ _ h3).2, fun Hs hHs => ?_⟩
        obtain ⟨i, hi⟩ := hHs b' (by simp)
        rw [k1] at hi
        exact .inr (.inl ⟨b', o, c', us, opr, wr', i, rfl, hi, rfl, h5⟩)
    · cases h
  · rename_i s
    obtain rfl := hv.string
    cases hb : Nat.beq size 1 with
    | false => rw [hb] at h; cases h
    | true =>
      rw [hb] at h
      obtain rfl := Nat.eq_of_beq_eq_true hb
      simp only [cond_true, Option.some.injEq, Prod.mk.injEq] at h
      obtain ⟨rfl, rfl⟩ := h
      exact ⟨s.data.toList.map u8, [], .refl_flat (all_u8 _), by rw [List.length_map, Nat.mul_one]; rfl, (fun b hb => by cases hb), fun Hs _ => .inr (.inr (.inl ⟨s, rfl, rfl, rfl, rfl⟩))⟩
  · cases h

theorem growsB_lt {c l m hi κ c' : Nat} {op : Bool} (h : growsB c l m hi op = true) (hc : (c < bigU ∧ c' = c) ∨ ∃ k, c = bigU + k ∧ l + k ≤ κ ∧ c' = κ - k) (k7 : op = true → hi = 0 ∨ κ < hi) : c' < l + m := by
  unfold growsB at h
  rcases hc with ⟨h1, rfl⟩ | ⟨k, rfl, h2, rfl⟩
  · rw [lt_blt h1] at h; exact blt_lt h
  · have hb : Nat.blt (bigU + k) bigU = false := by
      cases hb : Nat.blt (bigU + k) bigU with
      | false => rfl
      | true => have := blt_lt hb; omega
    rw [hb] at h
    simp only [cond_false, Bool.and_eq_true] at h
    have e1 := blt_lt h.1.2
    have e2 := ble_le h.2
    rcases k7 h.1.1 with e | e <;> omega

theorem fitsB_le {c l m lo κ c' : Nat} {op : Bool} (h : fitsB c l m lo op = true) (hc : (c < bigU ∧ c' = c) ∨ ∃ k, c = bigU + k ∧ l + k ≤ κ ∧ c' = κ - k) (k7 : op = true → lo ≤ κ) : l + m ≤ c' := by
  unfold fitsB at h
  rcases hc with ⟨h1, rfl⟩ | ⟨k, rfl, h2, rfl⟩
  · rw [lt_blt h1] at h; exact ble_le h
  · have hb : Nat.blt (bigU + k) bigU = false := by
      cases hb : Nat.blt (bigU + k) bigU with
      | false => rfl
      | true => have := blt_lt hb; omega
    rw [hb] at h
    simp only [cond_false, Bool.and_eq_true] at h
    have e2 := ble_le h.2
    have := k7 h.1
    omega

/-- the same slice, longer -/
theorem VR.longer {b o l c m b' κ c' : Nat} (hr : R b b' κ) (hc : (c < bigU ∧ c' = c) ∨ ∃ k, c = bigU + k ∧ l + k ≤ κ ∧ c' = κ - k) (hm : m ≤ c') : VR R (.slice (some ⟨b, o, none⟩) m c) (.slice (some ⟨b', o, none⟩) m c') := by
  rcases hc with ⟨h1, rfl⟩ | ⟨k, rfl, h2, rfl⟩
  · exact .slice hr h1
  · exact .sliceU hr (by omega)

set_option maxHeartbeats 2000000 in
/-- append, by what is appended -/
theorem ef_appX (hx : HX W0 R n H A) {x y : Operand} {sT xT e : TypeId} {te : TI} {inf : TypeInfo} {z : Value} {ap : Sem (Array Value)} {s u vy : Value} {m sl : Nat} {news news' : List Value} {B : List Nat} {ef : Eff} {sa : Option Addr} {sc : Nat}
    (hsz : inf.size = te.size) (hzc : z.cells.toList = te.zero) (hzf : te.zero.all flatB = true) (hzl : te.zero.length = te.size) (hs : s = .slice sa sl sc)
    (h1 : opv (fargs t.toList 0) x = some u) (hv : VR R s u) (h2 : opv (fargs t.toList 0) y = some vy) (hn : VL R news news') (hnl : news'.length = m * te.size) (hB : ∀ b ∈ B, b < A.next)
    (hap : ∀ Hs A', (∀ b ∈ B, ∃ i, At Hs b (A.get b) i) → SL A' Hs → SemR P ap A' news'.toArray)
    (hrun : ∀ Hs A', (∀ b ∈ B, ∃ i, At Hs b (A.get b) i) → SL A' Hs → ∀ base cap w, HR A' w → (Builtin.append_ #[sT, xT] ty #[.slice base sl cap, vy]).run P w = (appCoreG inf z e base sl cap m ap).run P w)
    (h : appX te H n s m news = some ef) : opA P ⟨d, .call { callee := .builtin .append, args := #[x, y], argTypes := #[sT, xT] }, ty, p, af, g⟩ t A (EfPost W0 R [ef]) := by
  have hzone := all_flat_one hzf
  subst hs
  unfold appX at h
  split at h
  · rename_i l c heq
    cases heq
    obtain rfl := hv.flat_eq rfl
    obtain ⟨Hs, hsl, hat⟩ := hsOf B hB
    cases hle : Nat.ble (sl + m) sc with
    | true =>
      rw [hle] at h
      simp only [cond_true, Option.some.injEq] at h; subst h
      refine ef_other hsl (Ke := fun u H' => u = .slice none (sl + m) sc ∧ H' = Hs) (OtherP.appG hsz hzc h1 h2 (fun A' hA' => hap Hs A' hat hA') (fun A' hA' w hw => hrun Hs A' hat hA' none sc w hw)
        (fun _ => .inl ⟨rfl, rfl, rfl⟩) (fun hlt => absurd (ble_le hle) (by omega)) (olds := [])) ?_
      rintro u A' H' g1 g2 ⟨rfl, rfl⟩
      obtain ⟨e1, e2⟩ := kf_same hsl g1 g2
      exact ⟨_, List.mem_cons_self, R, fun _ _ _ h => h, hx.keep e1 e2, .flat _ rfl⟩
    | false =>
      rw [hle] at h
      simp only [cond_false] at h
      have hnle : ¬ sl + m ≤ sc := fun e => by rw [Nat.ble_eq_true_of_le e] at hle; cases hle
      cases h0 : (Nat.beq sl 0 && news.all (·.oneCell')) with
      | false => rw [h0] at h; cases h
      | true =>
        rw [h0] at h
        simp only [cond_true, Option.some.injEq] at h; subst h
        simp only [Bool.and_eq_true] at h0
        obtain rfl := Nat.eq_of_beq_eq_true h0.1
        have hone := hn.all_one h0.2
        refine ef_other hsl (Ke := fun u H' => ∃ b sp, u = .slice (some ⟨b, 0, none⟩) (0 + m) (0 + m + sp) ∧ H' = (b, .cells ([] ++ news' ++ rep te.zero sp) false true) :: Hs)
          (OtherP.appG hsz hzc h1 h2 (fun A' hA' => hap Hs A' hat hA') (fun A' hA' w hw => hrun Hs A' hat hA' none sc w hw)
          (fun hle => absurd hle hnle) (fun _ => ⟨.inl ⟨sc, rfl, rfl, rfl⟩, fun b sp => ⟨b, sp, rfl, rfl⟩⟩)) ?_
        rintro u A' H' g1 g2 ⟨b, sp, rfl, rfl⟩
        rw [Nat.zero_add, List.nil_append] at *
        refine ef_new hx hsl (κ := m + sp) g1 g2 ?_ ?_
        · have hl := hn.length
          refine ⟨_, false, true, rfl, fun _ => rfl, by simp; omega, ?_, ?_, (fun e => by cases e), fun _ => ⟨?_, by omega, .inl rfl⟩⟩
          · rw [List.all_append, Bool.and_eq_true]; exact ⟨hone, rep_all hzone _⟩
          · rw [hl, List.take_left]; exact hn.mono addR_sub
          · rw [List.length_append, hnl, rep_length, hzl, Nat.add_mul]
        · have := VR.sliceU (R := addR R n b (m + sp)) (o := 0) (l := m) (k := 0) addR_new (by omega)
          simpa using this
  · rename_i b o l c heq
    cases heq
    obtain ⟨b', κ, c', h3, rfl, h4⟩ := hv.slice_inv
    split at h
    · rename_i vs es lo hi op wr hb
      obtain ⟨us, opr, wr', k1, k2, k3, k4, k5, k6, k7⟩ := hx.cells h3 hb
      obtain ⟨Hs, hsl, hat⟩ := hsOf (A := A) (b' :: B) (fun c hc => by
        rcases List.mem_cons.1 hc with rfl | hc
        · exact (hx.lt _ _ _ h3).2
        · exact hB c hc)
      have hat' : ∀ b ∈ B, ∃ i, At Hs b (A.get b) i := fun b hb => hat b (List.mem_cons_of_mem _ hb)
      obtain ⟨j, hj⟩ := hat b' List.mem_cons_self
      rw [k1] at hj
      have hgrow : ∀ (hlt : c' < sl + m) (hle : o + sl * te.size ≤ vs.length) (hone : news.all (·.oneCell') = true),
          opA P ⟨d, .call { callee := .builtin .append, args := #[x, y], argTypes := #[sT, xT] }, ty, p, af, g⟩ t A (EfPost W0 R [(.slice (some ⟨n, 0, none⟩) (sl + m) bigU, BT.put 32 H n (some (.cells (sub vs o (sl * te.size) ++ news) te.size (sl + m) 0 true true)), n + 1)]) := by
        intro hlt hle hone
        obtain ⟨f1, f2⟩ := cells_sub k5 k3 hle
        have hone' := hn.all_one hone
        refine ef_other hsl (Ke := fun u H' => ∃ b sp, u = .slice (some ⟨b, 0, none⟩) (sl + m) (sl + m + sp) ∧ H' = (b, .cells ((us.drop o).take (sl * te.size) ++ news' ++ rep te.zero sp) false true) :: Hs)
          (OtherP.appG hsz hzc h1 h2 (fun A' hA' => hap Hs A' hat' hA') (fun A' hA' w hw => hrun Hs A' hat' hA' _ c' w hw)
          (fun hle => absurd hle (by omega)) (fun _ => ⟨.inr (.inl ⟨b', o, c', us, opr, wr', j, rfl, hj, rfl, f2⟩), fun b sp => ⟨b, sp, rfl, rfl⟩⟩)) ?_
        rintro u A' H' g1 g2 ⟨b2, sp, rfl, rfl⟩
        refine ef_new hx hsl (κ := sl + m + sp) g1 g2 ?_ ?_
        · have hl := (f1.append hn).length
          refine ⟨_, false, true, rfl, fun _ => rfl, by rw [hl]; simp, ?_, ?_, (fun e => by cases e), fun _ => ⟨?_, by omega, .inl rfl⟩⟩
          · rw [List.all_append, List.all_append, Bool.and_eq_true, Bool.and_eq_true]
            refine ⟨⟨?_, hone'⟩, rep_all hzone _⟩
            rw [List.all_eq_true] at k4 ⊢
            exact fun x hx => k4 x (List.mem_of_mem_drop (List.mem_of_mem_take hx))
          · rw [hl, List.take_left]; exact (f1.append hn).mono addR_sub
          · rw [List.length_append, List.length_append, f2, hnl, rep_length, hzl, Nat.add_mul, Nat.add_mul]
        · have := VR.sliceU (R := addR R n b2 (sl + m + sp)) (o := 0) (l := sl + m) (k := 0) addR_new (by omega)
          simpa using this
      cases hf : fitsB sc sl m lo op with
      | true =>
        rw [hf] at h
        simp only [cond_true] at h
        have hcap := fitsB_le hf h4 (fun e => (k7 e).2.1)
        split at h
        · rename_i vs2 hvs2
          cases hg : (wr && news.all (·.oneCell')) with
          | false => rw [hg] at h; cases h
          | true =>
            rw [hg] at h
            simp only [cond_true, Option.some.injEq] at h; subst h
            simp only [Bool.and_eq_true] at hg
            obtain ⟨rfl, hone⟩ := hg
            obtain rfl := k2 rfl
            obtain ⟨r1, r2, r3, r4⟩ := roomX_ok hvs2 k3 k4 k5 k6 k7
            have hone' := hn.all_one hone
            have hl := hn.length
            refine ef_other hsl (Ke := fun u H' => u = .slice (some ⟨b', o, none⟩) (sl + m) c' ∧ H' = hset Hs j (.cells (splice us (o + sl * te.size) news') opr true))
              (OtherP.appG hsz hzc h1 h2 (fun A' hA' => hap Hs A' hat' hA') (fun A' hA' w hw => hrun Hs A' hat' hA' _ c' w hw)
              (fun _ => .inr ⟨b', o, us, _, opr, _, rfl, setN_splice (by omega), hone', hj.upd _, rfl, rfl⟩) (fun hlt => absurd hcap (by omega)) (olds := [])) ?_
            rintro u A' H' g1 g2 ⟨rfl, rfl⟩
            exact ef_splice hx h3 hb hsl hj r2 k4 r3 r4 k7 hn hone' (by omega) g1 g2 (VR.longer h3 h4 hcap)
        · cases h
      | false =>
        rw [hf] at h
        simp only [cond_false] at h
        cases hgr : growsB sc sl m hi op with
        | true =>
          rw [hgr] at h
          simp only [cond_true] at h
          cases hg : (Nat.ble (o + sl * te.size) vs.length && news.all (·.oneCell')) with
          | false => rw [hg] at h; cases h
          | true =>
            rw [hg] at h
            simp only [cond_true, Option.some.injEq] at h; subst h
            simp only [Bool.and_eq_true] at hg
            exact hgrow (growsB_lt hgr h4 (fun e => (k7 e).2.2)) (ble_le hg.1) hg.2
        | false =>
          rw [hgr] at h
          simp only [cond_false] at h
          cases hg : (Nat.beq sc bigU && Nat.beq o 0 && op && wr && Nat.beq es te.size && Nat.ble (sl * te.size) vs.length && news.all (·.oneCell')) with
          | false => rw [hg] at h; cases h
          | true =>
            rw [hg] at h
            simp only [cond_true, Option.some.injEq] at h; subst h
            simp only [Bool.and_eq_true] at hg
            obtain ⟨⟨⟨⟨⟨⟨q1, q2⟩, rfl⟩, rfl⟩, q3⟩, q4⟩, hone⟩ := hg
            obtain rfl := Nat.eq_of_beq_eq_true q1
            obtain rfl := Nat.eq_of_beq_eq_true q2
            obtain rfl := Nat.eq_of_beq_eq_true q3
            obtain rfl := k2 rfl
            obtain ⟨e1, e2, _⟩ := k7 rfl
            have hle := ble_le q4
            have hκ : c' = κ := by
              rcases h4 with ⟨h5, _⟩ | ⟨k, h5, _, h6⟩
              · omega
              · omega
            subst hκ
            obtain ⟨f1, f2⟩ := cells_sub (i := 0) (m := sl * te.size) k5 k3 (by omega)
            have hone' := hn.all_one hone
            have hl := hn.length
            have hl2 := (f1.append hn).length
            rw [List.drop_zero] at f1 f2 hl2
            refine ef_other hsl (Ke := fun u H' => (sl + m ≤ c' ∧ u = .slice (some ⟨b', 0, none⟩) (sl + m) c' ∧ H' = hset Hs j (.cells (splice us (0 + sl * te.size) news') opr true)) ∨
                ∃ b sp, u = .slice (some ⟨b, 0, none⟩) (sl + m) (sl + m + sp) ∧ H' = (b, .cells (us.take (sl * te.size) ++ news' ++ rep te.zero sp) false true) :: Hs)
              (OtherP.appG hsz hzc h1 h2 (fun A' hA' => hap Hs A' hat' hA') (fun A' hA' w hw => hrun Hs A' hat' hA' _ c' w hw)
              (fun hcap => .inr ⟨b', 0, us, _, opr, _, rfl, setN_splice (by
                have := Nat.mul_le_mul_right te.size hcap
                rw [Nat.add_mul] at this; omega), hone', hj.upd _, .inl ⟨hcap, rfl, rfl⟩⟩)
              (fun _ => ⟨.inr (.inl ⟨b', 0, c', us, opr, true, j, rfl, hj, by rw [List.drop_zero], f2⟩), fun b sp => .inr ⟨b, sp, rfl, rfl⟩⟩)) ?_
            rintro u A' H' g1 g2 (⟨hcap, rfl, rfl⟩ | ⟨b2, sp, rfl, rfl⟩)
            · obtain ⟨i1, i2, i3⟩ := kf_set hsl hj g1 g2
              have hfit : sl * te.size + news'.length ≤ us.length := by
                have := Nat.mul_le_mul_right te.size hcap
                rw [Nat.add_mul] at this; omega
              refine ⟨_, List.mem_cons_self, addR R n b' c', addR_sub, hx.rename hb h3 i2 i3 ?_, ?_⟩
              · rw [i1, Nat.zero_add]
                refine ⟨_, opr, true, rfl, fun _ => rfl, ?_, splice_all _ _ _ k4 hone', ?_, (fun e => by cases e), fun _ => ⟨by rw [splice_length]; exact e1, hcap, .inl rfl⟩⟩
                · rw [hl2, splice_length]; simp; omega
                · rw [hl2, List.length_append, f2, splice_take_end _ _ _ hfit]
                  exact (f1.append hn).mono addR_sub
              · have := VR.sliceU (R := addR R n b' c') (o := 0) (l := sl + m) (k := 0) addR_new (by omega)
                simpa using this
            · obtain ⟨i1, i2, i3, i4⟩ := kf_new hsl g1 g2
              refine ⟨_, List.mem_cons_self, addR R n b2 (sl + m + sp), addR_sub, (hx.del b).new i1 i2 i4 ?_, ?_⟩
              · rw [i3]
                refine ⟨_, false, true, rfl, fun _ => rfl, by rw [hl2]; simp, ?_, ?_, (fun e => by cases e), fun _ => ⟨?_, by omega, .inl rfl⟩⟩
                · rw [List.all_append, List.all_append, Bool.and_eq_true, Bool.and_eq_true]
                  refine ⟨⟨?_, hone'⟩, rep_all hzone _⟩
                  rw [List.all_eq_true] at k4 ⊢
                  exact fun x hx => k4 x (List.mem_of_mem_take hx)
                · rw [hl2, List.take_left]; exact (f1.append hn).mono addR_sub
                · rw [List.length_append, List.length_append, f2, hnl, rep_length, hzl, Nat.add_mul, Nat.add_mul]
              · have := VR.sliceU (R := addR R n b2 (sl + m + sp)) (o := 0) (l := sl + m) (k := 0) addR_new (by omega)
                simpa using this
    · cases h
  · cases h

end ops
end Go.Am
