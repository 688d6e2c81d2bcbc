/-
Calls, rounds, regions, loops over functions.
-/
import Derived.Test.YtlogogdfmcdpfaaGreatDoorWc
import Derived.RangeFuncLeaves
import Derived.RangeFuncNested
import Derived.OrdersIn
set_option linter.all false
namespace Go.Am
open Go

def FX (r : Option Nat) : Fence := { Fence.wide with round := r }

theorem fx_room (r : Option Nat) (n : Nat) : (FX r).room n := fun d hd => by cases hd
theorem fx_depth (r : Option Nat) : (FX r).depth.isSome = true → 1 ≤ 0 := fun h => by cases h
theorem fx_fenced (r : Option Nat) (P : Program) (m : Machine) : m.fenced P (FX r) := fenced_wide P m

def RoundX (P : Program) (l : Nat) (f : FuncId) (tmps : Array Value) (assign body : Code) (A : AHeap) (Q : Value → AHeap → Prop) : Prop :=
  ∀ w, HR A w → RoundIn (FX none) 0 P l f tmps assign body w (fun e w' => ∃ v A', e = .returned v ∧ HR A' w' ∧ Same A A' ∧ Q v A')

def opNextX (P : Program) (K : Value → AHeap → Prop) : Next → AHeap → Prop
  | .value v, A => K v A
  | .skip, A => K undef A
  | .enter f args, A => CallA P f args A K
  | .round l f tmps assign body, A => RoundX P l f tmps assign body A K
  | _, _ => False

def opX (P : Program) (o : Oper) (t : Array Value) (A : AHeap) (K : Value → AHeap → Prop) : Prop :=
  SemA P (execOp (Act.eval ⟨t, []⟩) o) A (opNextX P K)

theorem opX_of_opA {P : Program} {o : Oper} {t : Array Value} {A : AHeap} {K : Value → AHeap → Prop} (h : opA P o t A K) : opX P o t A K :=
  h.mono fun nx A' _ hq => by cases nx <;> first | exact hq | exact hq.elim

theorem RoundX.mono {P : Program} {l : Nat} {f : FuncId} {tmps : Array Value} {assign body : Code} {A : AHeap} {Q R : Value → AHeap → Prop}
    (h : RoundX P l f tmps assign body A Q) (hr : ∀ v A', Same A A' → Q v A' → R v A') : RoundX P l f tmps assign body A R :=
  fun w hw => (h w hw).mono fun _ _ ⟨v, A', he, hA, hs, hq⟩ => ⟨v, A', he, hA, hs, hr _ _ hs hq⟩

theorem opX.mono {P : Program} {o : Oper} {t : Array Value} {A : AHeap} {K L : Value → AHeap → Prop} (h : opX P o t A K) (hk : ∀ v A', K v A' → L v A') : opX P o t A L :=
  SemA.mono h fun nx A' _ hq => by
    cases nx <;> first | exact hk _ _ hq | exact CallA.mono hq (fun _ _ _ h => hk _ _ h) | exact RoundX.mono hq (fun _ _ _ h => hk _ _ h) | exact hq.elim

theorem put_eqD (t : Array Value) (ds : List Deferred) (dst : Option Tmp) (v : Value) : (Act.mk t ds).put dst v = ⟨putT t dst v, ds⟩ := by
  cases dst <;> rfl

theorem eval_D (t : Array Value) (ds : List Deferred) : (Act.mk t ds).eval = (Act.mk t []).eval := by
  funext x; cases x <;> rfl

theorem callsFX {P : Program} {r : Option Nat} {n : Nat} {f : FuncId} {args : Array Value} {w : World} {R : Ending → World → Prop} (h : Calls P f args w R) : CallsIn (FX r) n P f args w R := by
  have := (callsIn_wide (n := n)).2 h
  exact this

theorem opX_sound {P : Program} {o : Oper} {t : Array Value} {ds : List Deferred} {A : AHeap} {w : World} {K : Value → AHeap → Prop} {Q : Exit → Act → World → Prop}
    {N : Act → World → Prop} {r : Option Nat} (hnd : ∀ c, o.op ≠ .defer c) (h : HR A w) (hq : opX P o t A K)
    (hn : ∀ v A' w', HR A' w' → Same A A' → K v A' → N ⟨putT t o.dst v, ds⟩ w') : o.wpIn (FX r) 0 P ⟨t, ds⟩ w N Q := by
  refine ⟨fun f _ => trivial, ?_⟩
  rw [Oper.semAt_eq _ _ _ hnd, eval_D]
  obtain ⟨nx, A', w', hr, hA, hs, hQ⟩ := hq w h
  rw [hr]
  cases nx <;> simp only [opNextX] at hQ <;> try exact hQ.elim
  case value v => simp only [Oper.uponIn]; rw [put_eqD]; exact hn _ _ _ hA hs hQ
  case skip => simp only [Oper.uponIn]; rw [put_eqD]; exact hn _ _ _ hA hs hQ
  case enter f args =>
    simp only [Oper.uponIn]
    refine ⟨fx_depth r, callsFX ((hQ w' hA).mono ?_)⟩
    rintro e w'' ⟨v, A'', rfl, hA'', hs', hK⟩
    simp only []
    rw [put_eqD]
    exact hn _ _ _ hA'' (hs.trans hs') hK
  case round l f tmps assign body =>
    simp only [Oper.uponIn]
    refine ⟨fx_depth r, ?_⟩
    have h1 : RoundIn (FX r) 0 P l f tmps assign body w' (fun e w'' => ∃ v A'', e = .returned v ∧ HR A'' w'' ∧ Same A' A'' ∧ K v A'') := hQ w' hA
    refine RoundIn.mono h1 ?_
    rintro e w'' ⟨v, A'', rfl, hA'', hs', hK⟩
    simp only []
    rw [put_eqD]
    exact hn _ _ _ hA'' (hs.trans hs') hK

def noDeferB (ops : List Oper) : Bool := ops.all fun o => match o.op with | .defer _ => false | _ => true

theorem noDefer_spec {ops : List Oper} (h : noDeferB ops = true) {o : Oper} (ho : o ∈ ops) : ∀ c, o.op ≠ .defer c := by
  intro c he
  have := List.all_eq_true.1 h o ho
  rw [he] at this
  cases this

/-! Regions that go in the order of the text. -/

def OpsX (P : Program) (ops : Array Oper) (K : Array Value → AHeap → Prop) : List Oper → Array Value → AHeap → Prop
  | [], t, A => K t A
  | o :: rest, t, A =>
    if Region.wanted o (yielded ops t) then opX P o t A (fun v A' => OpsX P ops K rest (putT t o.dst v) A')
    else OpsX P ops K rest (putT t o.dst undef) A

theorem OpsX_sound {P : Program} {l : List Oper} {K : Array Value → AHeap → Prop} {Q : Exit → Act → World → Prop} {ds : List Deferred} {r : Option Nat} (hnd : noDeferB l = true) : ∀ (rest pre : List Oper) {t : Array Value} {A : AHeap} {w : World},
    l = pre ++ rest → HR A w → OpsX P l.toArray K rest t A → (∀ t' A' w', HR A' w' → Same A A' → K t' A' → Q .normal ⟨t', ds⟩ w') →
    wpOpsIn (FX r) 0 P l.toArray Q ((List.range rest.length).map (· + pre.length)) ⟨t, ds⟩ w := by
  intro rest
  induction rest with
  | nil => intro pre t A w _ h hq hk; exact hk _ _ _ h (.refl _) hq
  | cons o rest ih =>
    intro pre t A w hl h hq hk
    have hlist : (List.range (o :: rest).length).map (· + pre.length) = pre.length :: (List.range rest.length).map (· + (pre ++ [o]).length) := by
      rw [List.length_cons, List.range_succ_eq_map, List.map_cons, List.map_map]
      simp [Function.comp_def, Nat.add_comm, Nat.add_left_comm]
    rw [hlist]
    have ho : l.toArray[pre.length]? = some o := by rw [hl]; simp
    have hmem : o ∈ l := by rw [hl]; simp
    simp only [wpOpsIn, ho]
    simp only [OpsX] at hq
    have hl2 : l = (pre ++ [o]) ++ rest := by rw [hl]; simp
    split
    · rename_i hw
      rw [if_pos hw] at hq
      exact opX_sound (noDefer_spec hnd hmem) h hq fun v A' w' hA hs hK => ih _ hl2 hA hK fun t' A'' w'' h1 h2 h3 => hk _ _ _ h1 (hs.trans h2) h3
    · rename_i hw
      rw [if_neg hw] at hq
      rw [put_eqD]
      exact ⟨fun _ _ => trivial, ih _ hl2 h hq hk⟩

/-! Regions that draw. -/

def wpAnyHX (r : Option Nat) (P : Program) (ops : List Oper) (Q : Exit → Act → World → Prop) : Nat → Array Bool → List Ahead → Act → World → Prop
  | 0, listed, _, a, w => Region.ready .any ops.toArray listed = [] ∧ Q .normal a w
  | n + 1, listed, act, a, w =>
    (Region.ready .any ops.toArray listed = [] → Q .normal a w) ∧
    ∀ k ∈ Region.ready .any ops.toArray listed, wpOpIn (FX r) 0 P ops.toArray Q k (fun a' w' => (∀ x ∈ dropT ops k act, Holds P w' x) ∧
      wpAnyHX r P ops Q n (listed.setIfInBounds k true) (dropT ops k act) a' w') a w

theorem wpAnyX_of_H {r : Option Nat} {P : Program} {ops : List Oper} {Q : Exit → Act → World → Prop} : ∀ (n : Nat) (listed : Array Bool) (act : List Ahead) (a : Act) (w : World),
    wpAnyHX r P ops Q n listed act a w → wpAnyIn (FX r) 0 P .any ops.toArray Q n listed a w := by
  intro n
  induction n with
  | zero => intro listed act a w h; exact h
  | succ n ih => intro listed act a w h; exact ⟨h.1, fun k hk => wpOpIn_mono (fun a w hh => ih _ _ a w hh.2) (h.2 k hk)⟩

theorem wpAnyHX_sub {r : Option Nat} {P : Program} {ops : List Oper} {Q : Exit → Act → World → Prop} : ∀ (n : Nat) (listed : Array Bool) (act act' : List Ahead) (a : Act) (w : World),
    (∀ x ∈ act', x ∈ act) → wpAnyHX r P ops Q n listed act a w → wpAnyHX r P ops Q n listed act' a w := by
  intro n
  induction n with
  | zero => intro listed act act' a w _ h; exact h
  | succ n ih =>
    intro listed act act' a w hs h
    have hd : ∀ k, ∀ x ∈ dropT ops k act', x ∈ dropT ops k act := fun k x hx => by
      simp only [dropT, List.mem_filter] at hx ⊢
      exact ⟨hs x hx.1, hx.2⟩
    exact ⟨h.1, fun k hk => wpOpIn_mono (fun a w hh => ⟨fun y hy => hh.1 y (hd k y hy), ih _ _ _ a w (hd k) hh.2⟩) (h.2 k hk)⟩

theorem wpOpX_put' {r : Option Nat} {P : Program} {ops : Array Oper} {Q : Exit → Act → World → Prop} {j : Nat} {oi oj : Oper} {v : Value} (hj : ops[j]? = some oj) (hap : oi.apart ops oj = true)
    (hsi : ∀ cs b, oi.op ≠ .select cs b) (hsj : ∀ cs b, oj.op ≠ .select cs b) (hdj : ∀ c, oj.op ≠ .defer c)
    (hQ : ∀ c a w, Q (.panic c) (a.put oi.dst v) w → Q (.panic c) a w) {K : Act → World → Prop} {a : Act} {w : World} {s : Sem Next} {b : Bool}
    (h1s : execOp a.eval oi = s) (h1b : Region.wanted oi (yielded ops a.tmps) = b)
    (h : wpOpIn (FX r) 0 P ops Q j K (a.put oi.dst v) w) :
    wpOpIn (FX r) 0 P ops Q j (fun a' w' => (execOp a'.eval oi = s ∧ Region.wanted oi (yielded ops a'.tmps) = b) ∧ K (a'.put oi.dst v) w') a w := by
  obtain ⟨h1, h2, h3⟩ := Oper.apart_spec hap
  have keep : ∀ u, execOp (a.put oj.dst u).eval oi = s ∧ Region.wanted oi (yielded ops (a.put oj.dst u).tmps) = b := fun u =>
    ⟨(execOp_put oi hsi a oj.dst u h3).trans h1s, (wanted_put oi a oj.dst u h3).trans h1b⟩
  unfold wpOpIn at *
  simp only [hj] at *
  rw [wanted_put oj a oi.dst v h1] at h
  split
  · rename_i hw
    simp only [hw, if_true] at h
    unfold Oper.wpIn at *
    refine ⟨fun _ _ => trivial, ?_⟩
    have h := h.2
    rw [Oper.semAt_eq _ _ _ hdj, execOp_put oj hsj a oi.dst v h1] at h
    rw [Oper.semAt_eq _ _ _ hdj]
    generalize (execOp a.eval oj).run P w = res at *
    cases res with
    | ok n w' =>
      cases n <;> simp only [Oper.uponIn] at h ⊢
      case value u => exact ⟨keep u, by rw [← Act.put_comm a v u h2]; exact h⟩
      case skip => exact ⟨keep _, by rw [← Act.put_comm a v undef h2]; exact h⟩
      case defer d =>
        have hk : ∀ u, execOp (({ a with defers := d :: a.defers } : Act).put oj.dst u).eval oi = s ∧ Region.wanted oi (yielded ops (({ a with defers := d :: a.defers } : Act).put oj.dst u).tmps) = b := fun u =>
          ⟨(execOp_put oi hsi _ oj.dst u h3).trans h1s, (wanted_put oi _ oj.dst u h3).trans h1b⟩
        refine ⟨hk _, ?_⟩
        rw [← Act.put_comm _ v undef h2, ← Act.put_defers]
        exact h
      case enter f args =>
        refine ⟨h.1, CallsIn.mono h.2 fun e w'' he => ?_⟩
        cases e with
        | returned u => exact ⟨keep u, by rw [← Act.put_comm a v u h2]; exact he⟩
        | panicked c => exact hQ _ _ _ he
        | outgrown => exact he
      case row row args =>
        exact ⟨h.1, RowsIn.mono h.2 fun u w'' he => ⟨keep u, by rw [← Act.put_comm a v u h2]; exact he⟩⟩
      case round l f tmps assign body =>
        refine ⟨h.1, RoundIn.mono h.2 fun e w'' he => ?_⟩
        cases e with
        | returned u => exact ⟨keep u, by rw [← Act.put_comm a v u h2]; exact he⟩
        | panicked c => exact hQ _ _ _ he
        | outgrown => exact he
    | halt x w' =>
      cases x <;> simp only [Oper.uponIn] at h ⊢
      exact hQ _ _ _ h
  · rename_i hw
    simp only [hw] at h
    exact ⟨fun _ _ => trivial, keep _, by rw [← Act.put_comm a v undef h2]; exact h.2⟩

theorem wpOpX_none {r : Option Nat} {P : Program} {ops : List Oper} {Q : Exit → Act → World → Prop} {i : Nat} {oi : Oper} (hoi : ops[i]? = some oi) (hnd : noDeferB ops = true) {s : Sem Next} {v : Value} {a : Act} {w : World} {K : Act → World → Prop}
    {wb : Bool} (hes : execOp a.eval oi = s) (hwb : Region.wanted oi (yielded ops.toArray a.tmps) = wb) (hv : wb = true → Holds P w (i, s, v)) (hu : wb = false → v = undef) (hK : K (a.put oi.dst v) w) : wpOpIn (FX r) 0 P ops.toArray Q i K a w := by
  have hoa : ops.toArray[i]? = some oi := by simpa using hoi
  unfold wpOpIn
  simp only [hoa]
  cases wb with
  | true =>
    rw [hwb, if_pos rfl]
    refine ⟨fun _ _ => trivial, ?_⟩
    rw [Oper.semAt_eq _ _ _ (noDefer_spec hnd (List.mem_of_getElem? hoi)), hes, hv rfl]
    exact hK
  | false => rw [hwb, if_neg (by simp)]; rw [← hu rfl]; exact ⟨fun _ _ => trivial, hK⟩

/-- an operation that only reads, moved first -/
theorem anyHX_first {r : Option Nat} {P : Program} {ops : List Oper} {Q : Exit → Act → World → Prop} {i : Nat} {oi : Oper} {v : Value} {s : Sem Next} {wb : Bool} (hoi : ops[i]? = some oi) (hns : noSelectB ops = true) (hnd : noDeferB ops = true)
    (hQ : ∀ c a w, ¬ Q (.panic c) a w) : ∀ (n : Nat) (listed : Array Bool) (act : List Ahead) (a : Act) (w : World), listed.size = ops.length → Closed ops listed →
    i ∈ Region.ready .any ops.toArray listed → apartB ops listed i oi = true → execOp a.eval oi = s → Region.wanted oi (yielded ops.toArray a.tmps) = wb →
    (wb = true → Holds P w (i, s, v)) → (wb = false → v = undef) → (∀ x ∈ act, Holds P w x) →
    wpAnyHX r P ops Q n (listed.setIfInBounds i true) (if wb then (i, s, v) :: act else act) (a.put oi.dst v) w → wpAnyHX r P ops Q (n + 1) listed act a w := by
  intro n
  induction n with
  | zero =>
    intro listed act a w hsz hcl hi hap hes hwb hv hu hact hH
    refine ⟨fun h => (by rw [h] at hi; cases hi), fun k hk => ?_⟩
    by_cases hki : k = i
    · subst hki
      exact wpOpX_none hoi hnd hes hwb hv hu ⟨fun x hx => hact x ((List.mem_filter.1 hx).1), hH⟩
    · have := ready_set hsz hk hki
      rw [hH.1] at this; cases this
  | succ n ih =>
    intro listed act a w hsz hcl hi hap hes hwb hv hu hact hH
    obtain ⟨_, hoi', hli, _⟩ := mem_ready' hi
    have hif : listed.getD i false = false := getD_false_of_true hli
    refine ⟨fun h => (by rw [h] at hi; cases hi), fun k hk => ?_⟩
    by_cases hki : k = i
    · subst hki
      refine wpOpX_none hoi hnd hes hwb hv hu ⟨fun x hx => hact x ((List.mem_filter.1 hx).1), wpAnyHX_sub _ _ _ _ _ _ (fun x hx => ?_) hH⟩
      have := (List.mem_filter.1 hx).1
      cases wb <;> simp [this]
    · have hk' := ready_set hsz hk hki
      obtain ⟨ok, hok, hlk, _⟩ := mem_ready' hk
      have hoka : ops.toArray[k]? = some ok := by simpa using hok
      have htk := ready_untainted hcl hif hk hki
      have hapk : oi.apart ops.toArray ok = true := by
        have := List.all_eq_true.1 hap k (by simpa using (List.getElem?_eq_some_iff.1 hok).1)
        simp only [hok, Option.map_some, Option.getD_some, hlk, htk, Bool.or_false, Bool.or_eq_true, beq_iff_eq] at this
        exact this.resolve_left hki
      have hh := wpOpX_put' hoka hapk (noSelect_spec hns hoi) (noSelect_spec hns hok) (noDefer_spec hnd (List.mem_of_getElem? hok)) (fun c a w h => absurd h (hQ c _ w)) hes hwb (hH.2 k hk')
      refine wpOpIn_mono (fun a' w' hx => ?_) hh
      obtain ⟨⟨hes', hwb'⟩, hx1, hx2⟩ := hx
      have hdrop : dropT ops k (if wb then (i, s, v) :: act else act) = if wb then (i, s, v) :: dropT ops k act else dropT ops k act := by
        cases wb with
        | true => simp only [if_true, dropT, List.filter_cons, htk, Bool.not_false]
        | false => rfl
      rw [hdrop] at hx1 hx2
      have hact' : ∀ x ∈ dropT ops k act, Holds P w' x := fun x hx => hx1 x (by cases wb <;> simp [hx])
      refine ⟨hact', ih _ _ _ _ (by simpa using hsz) (hcl.set hsz hk) ?_ ?_ hes' hwb' ?_ hu hact' ?_⟩
      · exact ready_set hsz hi (Ne.symm hki)
      · refine List.all_eq_true.2 fun j hj => ?_
        have := List.all_eq_true.1 hap j hj
        by_cases hjk : j = k
        · subst hjk
          have : j < listed.size := by rw [hsz]; exact (List.getElem?_eq_some_iff.1 hok).1
          simp [getD_set_self this]
        · rw [getD_set_ne' hjk]; exact this
      · intro hwt; subst hwt; exact hx1 _ (by simp)
      · rw [set_comm']; exact hx2

/-- an order of a region's operations: those that only read, first; of those that act, each that may be next -/
inductive Ord where
  | done
  | rd (i : Nat) (o : Ord)
  | ac (k : Nat) (o : Ord)
  | alt (a b : Ord)

def Ord.acts : Ord → List Nat
  | .ac k _ => [k]
  | .alt a b => a.acts ++ b.acts
  | _ => []

def Ord.len : Ord → Nat
  | .done => 0
  | .rd _ o => o.len + 1
  | .ac _ o => o.len + 1
  | .alt a _ => a.len

/-- a region's operations in an order -/
def CanonX (P : Program) (ops : List Oper) (Q : Array Value → AHeap → Prop) : Ord → List Ahead → Array Value → AHeap → Prop
  | .done, _, t, A => Q t A
  | .rd i π, act, t, A => match ops[i]? with
    | none => False
    | some o => if Region.wanted o (yielded ops.toArray t) then
        ∃ v, SemR P (execOp (Act.eval ⟨t, []⟩) o) A (.value v) ∧ CanonX P ops Q π ((i, execOp (Act.eval ⟨t, []⟩) o, v) :: act) (putT t o.dst v) A
      else CanonX P ops Q π act (putT t o.dst undef) A
  | .ac k π, act, t, A => match ops[k]? with
    | none => False
    | some o => if Region.wanted o (yielded ops.toArray t) then
        opX P o t A (fun v A' => (∀ x ∈ dropT ops k act, HoldsA P A' x) ∧ CanonX P ops Q π (dropT ops k act) (putT t o.dst v) A')
      else CanonX P ops Q π (dropT ops k act) (putT t o.dst undef) A
  | .alt a b, act, t, A => CanonX P ops Q a act t A ∧ CanonX P ops Q b act t A

def ordB (ops : List Oper) : Ord → Bool → Array Bool → Bool
  | .done, top, listed => top && (Region.ready .any ops.toArray listed).isEmpty
  | .rd i π, top, listed => top && (Region.ready .any ops.toArray listed).contains i && ((ops[i]?).map (apartB ops listed i)).getD false && ordB ops π true (listed.setIfInBounds i true)
  | .ac k π, top, listed => (!top || Region.ready .any ops.toArray listed == [k]) && (Region.ready .any ops.toArray listed).contains k && ordB ops π true (listed.setIfInBounds k true)
  | .alt a b, top, listed => (!top || (Region.ready .any ops.toArray listed).all fun k => (a.acts ++ b.acts).contains k) && a.len == b.len && ordB ops a false listed && ordB ops b false listed

def ordTop (ops : List Oper) (π : Ord) : Bool := π.len == ops.length && noSelectB ops && noDeferB ops && ordB ops π true (Array.replicate ops.length false)

theorem ord_sound {r : Option Nat} {P : Program} {ops : List Oper} {Q : Array Value → AHeap → Prop} {ds : List Deferred} {R : Exit → Act → World → Prop} (hns : noSelectB ops = true) (hnd : noDeferB ops = true) (hR : ∀ c a w, ¬ R (.panic c) a w) :
    ∀ (π : Ord) (listed : Array Bool) (act : List Ahead) (t : Array Value) (A : AHeap) (w : World), listed.size = ops.length → Closed ops listed →
    HR A w → (∀ x ∈ act, Holds P w x) → CanonX P ops Q π act t A →
    (∀ t' A' w', HR A' w' → Same A A' → Q t' A' → R .normal ⟨t', ds⟩ w') →
    (ordB ops π true listed = true → wpAnyHX r P ops R π.len listed act ⟨t, ds⟩ w) ∧
    (ordB ops π false listed = true → ∀ k ∈ π.acts, ∃ n, π.len = n + 1 ∧ wpOpIn (FX r) 0 P ops.toArray R k (fun a' w' => (∀ x ∈ dropT ops k act, Holds P w' x) ∧
      wpAnyHX r P ops R n (listed.setIfInBounds k true) (dropT ops k act) a' w') ⟨t, ds⟩ w) := by
  intro π
  induction π with
  | done =>
    intro listed act t A w hsz hcl hw hact hC hk
    refine ⟨fun hB => ?_, fun _ k hk' => by cases hk'⟩
    simp only [ordB, Bool.true_and, List.isEmpty_iff] at hB
    exact ⟨hB, hk _ _ _ hw (.refl _) hC⟩
  | rd i π ih =>
    intro listed act t A w hsz hcl hw hact hC hk
    refine ⟨fun hB => ?_, fun _ k hk' => by cases hk'⟩
    simp only [ordB, Bool.true_and, Bool.and_eq_true, List.contains_iff_mem] at hB
    obtain ⟨⟨hi, hap⟩, hB⟩ := hB
    simp only [CanonX] at hC
    obtain ⟨o, ho, _, _⟩ := mem_ready' hi
    rw [ho] at hC hap
    simp only [Option.map_some, Option.getD_some] at hap hC
    by_cases hwd : Region.wanted o (yielded ops.toArray t) = true
    · rw [if_pos hwd] at hC
      obtain ⟨v, hr, hn⟩ := hC
      have hr := hr w hw
      refine anyHX_first (v := v) (s := execOp (Act.eval ⟨t, []⟩) o) (wb := true) ho hns hnd hR _ _ _ _ _ hsz hcl hi hap (by rw [eval_D]) hwd (fun _ => hr) (by simp) hact ?_
      rw [put_eqD]
      exact (ih _ _ _ _ _ (by simpa using hsz) (hcl.set hsz hi) hw (fun x hx => by
        rcases List.mem_cons.1 hx with rfl | hx
        · exact hr
        · exact hact x hx) hn hk).1 hB
    · rw [if_neg hwd] at hC
      refine anyHX_first (v := undef) (s := execOp (Act.eval ⟨t, []⟩) o) (wb := false) ho hns hnd hR _ _ _ _ _ hsz hcl hi hap (by rw [eval_D]) (by simpa using hwd) (by simp) (fun _ => rfl) hact ?_
      rw [put_eqD]
      exact (ih _ _ _ _ _ (by simpa using hsz) (hcl.set hsz hi) hw hact hC hk).1 hB
  | ac k π ih =>
    intro listed act t A w hsz hcl hw hact hC hk
    have key : k ∈ Region.ready .any ops.toArray listed → ordB ops π true (listed.setIfInBounds k true) = true → wpOpIn (FX r) 0 P ops.toArray R k (fun a' w' => (∀ x ∈ dropT ops k act, Holds P w' x) ∧
        wpAnyHX r P ops R π.len (listed.setIfInBounds k true) (dropT ops k act) a' w') ⟨t, ds⟩ w := by
      intro hi hB
      obtain ⟨o, ho, _, _⟩ := mem_ready' hi
      simp only [CanonX] at hC
      rw [ho] at hC
      simp only at hC
      have hoa : ops.toArray[k]? = some o := by simpa using ho
      unfold wpOpIn
      simp only [hoa]
      by_cases hwd : Region.wanted o (yielded ops.toArray t) = true
      · rw [if_pos hwd] at hC ⊢
        refine opX_sound (noDefer_spec hnd (List.mem_of_getElem? ho)) hw hC fun v A' w' hA hs hK => ?_
        exact ⟨fun x hx => (hK.1 x hx).holds hA, (ih _ _ _ _ _ (by simpa using hsz) (hcl.set hsz hi) hA (fun x hx => (hK.1 x hx).holds hA) hK.2
          fun t' A'' w'' h1 h2 h3 => hk _ _ _ h1 (hs.trans h2) h3).1 hB⟩
      · rw [if_neg hwd] at hC ⊢
        rw [put_eqD]
        have hact' : ∀ x ∈ dropT ops k act, Holds P w x := fun x hx => hact x ((List.mem_filter.1 hx).1)
        exact ⟨fun _ _ => trivial, hact', (ih _ _ _ _ _ (by simpa using hsz) (hcl.set hsz hi) hw hact' hC hk).1 hB⟩
    refine ⟨fun hB => ?_, fun hB j hj => ?_⟩
    · simp only [ordB, Bool.not_true, Bool.false_or, Bool.and_eq_true, beq_iff_eq, List.contains_iff_mem] at hB
      obtain ⟨⟨hrd, hi⟩, hB⟩ := hB
      refine ⟨fun h => (by rw [h] at hrd; cases hrd), fun j hj => ?_⟩
      obtain rfl : j = k := by rw [hrd] at hj; simpa using hj
      exact key hi hB
    · simp only [ordB, Bool.not_false, Bool.true_or, Bool.true_and, Bool.and_eq_true, List.contains_iff_mem] at hB
      obtain rfl : j = k := by simpa [Ord.acts] using hj
      exact ⟨π.len, rfl, key hB.1 hB.2⟩
  | alt a b iha ihb =>
    intro listed act t A w hsz hcl hw hact hC hk
    obtain ⟨ha, hb⟩ := hC
    have key : a.len = b.len → ordB ops a false listed = true → ordB ops b false listed = true → ∀ k ∈ (Ord.alt a b).acts, ∃ n, a.len = n + 1 ∧ wpOpIn (FX r) 0 P ops.toArray R k (fun a' w' => (∀ x ∈ dropT ops k act, Holds P w' x) ∧
        wpAnyHX r P ops R n (listed.setIfInBounds k true) (dropT ops k act) a' w') ⟨t, ds⟩ w := by
      intro hlen hBa hBb k hk'
      simp only [Ord.acts, List.mem_append] at hk'
      rcases hk' with hk' | hk'
      · exact (iha _ _ _ _ _ hsz hcl hw hact ha hk).2 hBa k hk'
      · rw [hlen]; exact (ihb _ _ _ _ _ hsz hcl hw hact hb hk).2 hBb k hk'
    refine ⟨fun hB => ?_, fun hB => ?_⟩
    · simp only [ordB, Bool.not_true, Bool.false_or, Bool.and_eq_true, beq_iff_eq, List.all_eq_true, List.contains_iff_mem] at hB
      obtain ⟨⟨⟨hall, hlen⟩, hBa⟩, hBb⟩ := hB
      have hk2 := key hlen hBa hBb
      show wpAnyHX r P ops R a.len listed act ⟨t, ds⟩ w
      cases hl : a.len with
      | zero =>
        refine ⟨?_, ?_⟩
        · cases hr0 : Region.ready .any ops.toArray listed with
          | nil => rfl
          | cons x l =>
            obtain ⟨n, hn, _⟩ := hk2 x (hall x (by rw [hr0]; simp))
            omega
        · cases hr0 : Region.ready .any ops.toArray listed with
          | nil =>
            exfalso
            -- an order that goes on where nothing is ready
            have : ∀ (o : Ord) (l : Array Bool), ordB ops o false l = true → ∃ k, k ∈ Region.ready .any ops.toArray l := by
              intro o
              induction o with
              | done => intro l h; simp [ordB] at h
              | rd i o _ => intro l h; simp [ordB] at h
              | ac k o _ => intro l h; simp only [ordB, Bool.not_false, Bool.true_or, Bool.true_and, Bool.and_eq_true, List.contains_iff_mem] at h; exact ⟨k, h.1⟩
              | alt a b iha _ => intro l h; simp only [ordB, Bool.not_false, Bool.true_or, Bool.true_and, Bool.and_eq_true] at h; exact iha l h.1.2
            obtain ⟨k, hk'⟩ := this a listed hBa
            rw [hr0] at hk'; cases hk'
          | cons x l =>
            obtain ⟨n, hn, _⟩ := hk2 x (hall x (by rw [hr0]; simp))
            omega
      | succ m =>
        refine ⟨fun h0 => ?_, fun k hk' => ?_⟩
        · exfalso
          have : ∀ (o : Ord) (l : Array Bool), ordB ops o false l = true → ∃ k, k ∈ Region.ready .any ops.toArray l := by
            intro o
            induction o with
            | done => intro l h; simp [ordB] at h
            | rd i o _ => intro l h; simp [ordB] at h
            | ac k o _ => intro l h; simp only [ordB, Bool.not_false, Bool.true_or, Bool.true_and, Bool.and_eq_true, List.contains_iff_mem] at h; exact ⟨k, h.1⟩
            | alt a b iha _ => intro l h; simp only [ordB, Bool.not_false, Bool.true_or, Bool.true_and, Bool.and_eq_true] at h; exact iha l h.1.2
          obtain ⟨k, hk'⟩ := this a listed hBa
          rw [h0] at hk'; cases hk'
        · obtain ⟨n, hn, hx⟩ := hk2 k (hall k hk')
          obtain rfl : n = m := by omega
          exact hx
    · simp only [ordB, Bool.not_false, Bool.true_or, Bool.true_and, Bool.and_eq_true, beq_iff_eq] at hB
      exact key hB.1.1 hB.1.2 hB.2

/-! Pieces of code. -/

def liftX (A : AHeap) (Q : Exit → Array Value → List Deferred → AHeap → Prop) : Exit → Act → World → Prop :=
  fun e a w => ∃ A', HR A' w ∧ Same A A' ∧ Q e a.tmps a.defers A'

def CodeX (r : Option Nat) (P : Program) (c : Code) (t : Array Value) (ds : List Deferred) (A : AHeap) (Q : Exit → Array Value → List Deferred → AHeap → Prop) : Prop :=
  ∀ w, HR A w → c.wpIn (FX r) 0 P (liftX A Q) ⟨t, ds⟩ w

section rules
variable {r : Option Nat} {P : Program} {t : Array Value} {ds : List Deferred} {A : AHeap} {Q : Exit → Array Value → List Deferred → AHeap → Prop}

theorem CodeX.mono {c : Code} {R : Exit → Array Value → List Deferred → AHeap → Prop} (h : CodeX r P c t ds A Q) (hr : ∀ e t ds A', Same A A' → Q e t ds A' → R e t ds A') : CodeX r P c t ds A R :=
  fun w hw => wpIn_mono (h w hw) fun _ _ _ ⟨A', hA, hs, hq⟩ => ⟨A', hA, hs, hr _ _ _ _ hs hq⟩

theorem liftX_trans {B : AHeap} (hs : Same A B) {e : Exit} {a : Act} {w : World} (h : liftX B Q e a w) : liftX A Q e a w :=
  let ⟨A', h1, h2, h3⟩ := h; ⟨A', h1, hs.trans h2, h3⟩

theorem codeX_skip (h : Q .normal t ds A) : CodeX r P .skip t ds A Q := fun w hw => wpIn_skip ⟨A, hw, .refl _, h⟩
theorem codeX_label {l : Nat} (h : Q .normal t ds A) : CodeX r P (.label l) t ds A Q := fun w hw => wpIn_label ⟨A, hw, .refl _, h⟩
theorem codeX_exit {id : Nat} (h : Q (.exit id) t ds A) : CodeX r P (.exit id) t ds A Q := fun w hw => wpIn_exit ⟨A, hw, .refl _, h⟩
theorem codeX_goto {l : Nat} (h : Q (.goto l) t ds A) : CodeX r P (.goto l) t ds A Q := fun w hw => wpIn_goto ⟨A, hw, .refl _, h⟩
theorem codeX_ret (h : Q .ret t ds A) : CodeX r P .ret t ds A Q := fun w hw => wpIn_ret ⟨A, hw, .refl _, h⟩

def thenX (K : Array Value → List Deferred → AHeap → Prop) (Q : Exit → Array Value → List Deferred → AHeap → Prop) : Exit → Array Value → List Deferred → AHeap → Prop
  | .normal, t, ds, A => K t ds A
  | e, t, ds, A => Q e t ds A

theorem codeX_seq {x y : Code} (h : CodeX r P x t ds A (thenX (fun t ds A => CodeX r P y t ds A Q) Q)) : CodeX r P (.seq x y) t ds A Q :=
  fun w hw => wpIn_seq (wpIn_mono (h w hw) fun e a w' ⟨A', hA, hs, hq⟩ => by
    cases e with
    | normal => exact wpIn_mono (hq w' hA) fun _ _ _ hl => liftX_trans hs hl
    | _ => exact ⟨A', hA, hs, hq⟩)

theorem codeX_cond {c : Operand} {x y : Code} {b : Bool} (hc : (Act.mk t []).eval c = .bool b) (ht : b = true → CodeX r P x t ds A Q) (hf : b = false → CodeX r P y t ds A Q) :
    CodeX r P (.cond c x y) t ds A Q :=
  fun w hw => wpIn_cond_split (by rw [eval_D]; exact hc) (fun h => ht h w hw) (fun h => hf h w hw)

def inBlockX (id : Nat) (Q : Exit → Array Value → List Deferred → AHeap → Prop) : Exit → Array Value → List Deferred → AHeap → Prop
  | .exit id', t, ds, A => if id' = id then Q .normal t ds A else Q (.exit id') t ds A
  | e, t, ds, A => Q e t ds A

theorem codeX_block {id : Nat} {c : Code} (h : CodeX r P c t ds A (inBlockX id Q)) : CodeX r P (.block id c) t ds A Q :=
  fun w hw => wpIn_block (wpIn_mono (h w hw) fun e a w' ⟨A', hA, hs, hq⟩ => by
    cases e with
    | exit id' =>
      simp only [Exit.inBlock]
      simp only [inBlockX] at hq
      split
      · rename_i hid; rw [if_pos hid] at hq; exact ⟨A', hA, hs, hq⟩
      · rename_i hid; rw [if_neg hid] at hq; exact ⟨A', hA, hs, hq⟩
    | _ => exact ⟨A', hA, hs, hq⟩)

theorem codeX_region {id : Nat} {l : List Oper} (hnd : noDeferB l = true) (h : OpsX P l.toArray (fun t' A' => Q .normal t' ds A') l t A) : CodeX r P (.region id l.toArray false) t ds A Q :=
  fun w hw => wpIn_region (by
    have := OpsX_sound (r := r) (ds := ds) (Q := liftX A Q) hnd l [] rfl hw h fun t' A' w' hA hs hK => ⟨A', hA, hs, hK⟩
    simpa using this)

theorem codeX_region_draw {id : Nat} {l : List Oper} (π : Ord) (hm : P.follows .mixedOrders = true) (hB : ordTop l π = true) (h : CanonX P l (fun t' A' => Q .normal t' ds A') π [] t A) : CodeX r P (.region id l.toArray true) t ds A Q := by
  intro w hw
  simp only [ordTop, Bool.and_eq_true, beq_iff_eq] at hB
  obtain ⟨⟨⟨hlen, hns⟩, hnd⟩, hB⟩ := hB
  let R : Exit → Act → World → Prop := fun e a w => match e with
    | .normal => liftX A Q .normal a w
    | _ => False
  have H := (ord_sound (r := r) (P := P) (R := R) (ds := ds) (Q := fun t' A' => Q .normal t' ds A') hns hnd (fun c a w h => h) π (Array.replicate l.length false) [] t A _ (by simp)
    (fun j o _ hl => by
      rw [Array.getD_eq_getD_getElem?] at hl
      rcases Nat.lt_or_ge j l.length with hj | hj
      · simp [hj] at hl
      · rw [Array.getElem?_eq_none (by simpa using hj)] at hl; simp at hl) hw.drew (by simp) h
    (fun t' A' w' h1 h2 h3 => ⟨A', h1, h2, h3⟩)).1 hB
  rw [hlen] at H
  refine wpIn_mono (wpIn_region_any (Q := R) hm (by simpa using wpAnyX_of_H _ _ _ _ _ H)) fun e a w hr => ?_
  cases e <;> first | exact hr | exact hr.elim

/-! Loops. -/

def LoopWX (r : Option Nat) (P : Program) (c : Code) (Q : Exit → Act → World → Prop) (a : Act) (w : World) : Prop :=
  ∀ (b : Frame) (k : List Item) (cs : List Frame), b.roundOf = r → ∃ e a' w', Q e a' w' ∧ ArrivesIn (Machine.fenced P (FX r)) P (lone (b.atR a (.code c :: .inLoop c :: k)) cs w) b k cs e a' w'

theorem LoopWX.wp {c : Code} {Q : Exit → Act → World → Prop} {a : Act} {w : World} (h : LoopWX r P c Q a w) : (Code.loop c).wpIn (FX r) 0 P Q a w := by
  intro b k cs hro _ _
  obtain ⟨e, a', w', hq, harr⟩ := h b k cs hro
  exact ⟨e, a', w', hq, .of_steps (.one (fx_fenced r P _) stepR_loop) harr⟩

theorem LoopWX.unroll {c : Code} {Q : Exit → Act → World → Prop} {a : Act} {w : World} (h : c.wpIn (FX r) 0 P (Exit.then (fun a' w' => LoopWX r P c Q a' w') Q) a w) : LoopWX r P c Q a w := by
  intro b k cs hro
  obtain ⟨e, a₁, w₁, hq, harr⟩ := h b (.inLoop c :: k) cs hro trivial (fx_room r _)
  cases e with
  | normal =>
    obtain ⟨e₂, a₂, w₂, hq₂, harr₂⟩ := hq b k cs hro
    exact ⟨e₂, a₂, w₂, hq₂, .of_steps (StepsIn.trans harr (.one (fx_fenced r P _) stepR_inLoop)) harr₂⟩
  | exit id => exact ⟨_, a₁, w₁, hq, .pass (x := .inLoop c) rfl (fun _ _ => .inl (by simp)) harr⟩
  | goto l => exact ⟨_, a₁, w₁, hq, .pass (x := .inLoop c) rfl (fun _ _ => .inl (by simp)) harr⟩
  | ret => exact ⟨_, a₁, w₁, hq, .pass (x := .inLoop c) rfl (fun _ _ => .inl (by simp)) harr⟩
  | panic ch => exact ⟨_, a₁, w₁, hq, .pass (x := .inLoop c) rfl (fun _ _ => .inl (by simp)) harr⟩
  | outgrown => exact ⟨_, a₁, w₁, hq, .pass (x := .inLoop c) rfl (fun _ _ => .inl (by simp)) harr⟩

theorem LoopWX.mono {c : Code} {Q R : Exit → Act → World → Prop} {a : Act} {w : World} (h : LoopWX r P c Q a w) (hr : ∀ e a w, Q e a w → R e a w) : LoopWX r P c R a w := by
  intro b k cs hro
  obtain ⟨e, a', w', hq, harr⟩ := h b k cs hro
  exact ⟨e, a', w', hr _ _ _ hq, harr⟩

def LoopX (r : Option Nat) (P : Program) (c : Code) (t : Array Value) (ds : List Deferred) (A : AHeap) (Q : Exit → Array Value → List Deferred → AHeap → Prop) : Prop :=
  ∀ w, HR A w → LoopWX r P c (liftX A Q) ⟨t, ds⟩ w

theorem codeX_loop {c : Code} (h : LoopX r P c t ds A Q) : CodeX r P (.loop c) t ds A Q := fun w hw => (h w hw).wp

theorem LoopX.unroll {c : Code} (h : CodeX r P c t ds A (thenX (fun t ds A => LoopX r P c t ds A Q) Q)) : LoopX r P c t ds A Q := by
  intro w hw
  refine LoopWX.unroll (wpIn_mono (h w hw) fun e a w' ⟨A', hA, hs, hq⟩ => ?_)
  cases e with
  | normal => exact (hq w' hA).mono fun _ _ _ hl => liftX_trans hs hl
  | _ => exact ⟨A', hA, hs, hq⟩

/-! A function. -/

def LeaveX (P : Program) (fn : Func) (t : Array Value) (Q : Value → AHeap → Prop) : List Deferred → AHeap → Prop
  | [], A => ResA P fn t A (fun v => Q v A)
  | d :: ds, A => ∃ D, d.target = .collected D ∧ A.get D = .obj (.deferred (some [])) true ∧ LeaveX P fn t Q ds (A.set D (.obj (.deferred none) true))

def doneX (P : Program) (fn : Func) (Q : Value → AHeap → Prop) : Exit → Array Value → List Deferred → AHeap → Prop
  | .normal, t, ds, A => LeaveX P fn t Q ds A
  | .ret, t, ds, A => LeaveX P fn t Q ds A
  | _, _, _, _ => False

theorem leaveX_sound {fn : Func} {K : Value → AHeap → Prop} {R : Ending → World → Prop} : ∀ (ds : List Deferred) {A : AHeap} {w : World}, HR A w → LeaveX P fn t K ds A →
    (∀ v A' w', HR A' w' → Same A A' → K v A' → R (.returned v) w') → LeavesInM (FX none) 0 P fn t R ds .returning w := by
  intro ds
  induction ds with
  | nil =>
    intro A w hw h hk
    obtain ⟨v, hr, hq⟩ := h
    exact ⟨v, hr w hw, hk _ _ _ hw (.refl _) hq⟩
  | cons d ds ih =>
    intro A w hw h hk
    obtain ⟨D, hd, hg, h⟩ := h
    obtain ⟨hheap, _, _⟩ := hw.obj _ _ _ hg
    have hA := hw.setObj (o := .deferred none) hg rfl
    refine ⟨by simp, .inl ⟨D, _, hd, run_takeDeferred hheap, ?_⟩⟩
    exact ih hA h fun v A' w' h1 h2 h3 => hk _ _ _ h1 ⟨h2.1, h2.2⟩ h3

theorem callX_body {f : FuncId} {fn : Func} {c : Code} {args : Array Value} {K : Value → AHeap → Prop}
    (hf : P.funcs[f]? = some fn) (hb : fn.body = some c)
    (h : CodeX none P c (args ++ Array.replicate (fn.ntmps - args.size) undef) [] A (doneX P fn K)) : CallA P f args A K := by
  intro w hw
  refine (callsIn_wide (n := 0)).1 ?_
  have hx : CallsIn (FX none) 0 P f args w (fun e w' => ∃ v A', e = .returned v ∧ HR A' w' ∧ Same A A' ∧ K v A') := by
    refine callsIn_of_wp_marks hf hb trivial (wpIn_mono (h w hw) ?_)
    intro e a w' ⟨A', hA, hs, hq⟩
    have key : LeaveX P fn a.tmps K a.defers A' → LeavesInM (FX none) 0 P fn a.tmps (fun e w' => ∃ v A', e = .returned v ∧ HR A' w' ∧ Same A A' ∧ K v A') a.defers .returning w' :=
      fun hq => leaveX_sound _ hA hq fun v A'' w'' h1 h2 h3 => ⟨v, A'', rfl, h1, hs.trans h2, h3⟩
    cases e with
    | normal => exact key hq
    | ret => exact key hq
    | _ => exact hq.elim
  exact hx

/-! Loops over functions. -/

def jumpOf : Exit → Option (Option Code)
  | .normal => some none
  | .ret => some (some .ret)
  | .exit id => some (some (.exit id))
  | .goto l => some (some (.goto l))
  | _ => none

theorem roundX {l : Nat} {f : FuncId} {tmps : Array Value} {assign body : Code} {K : Value → AHeap → Prop}
    (h : CodeX (some l) P assign tmps [] A (fun e t ds A1 => e = .normal ∧ ∃ rec wr, A1.get l = .obj (.loop rec) wr ∧ wr = true ∧ rec.state = .ready ∧
      CodeX (some l) P body t ds (A1.set l (.obj (.loop { rec with state := .busy }) true)) (fun e _ _ A2 => ∃ jump, jumpOf e = some jump ∧ ∃ rec2, A2.get l = .obj (.loop rec2) true ∧
        K (.bool jump.isNone) (A2.set l (.obj (.loop { rec2 with state := if jump.isNone then .ready else .done, pending := jump }) true))))) : RoundX P l f tmps assign body A K := by
  intro w hw
  have hx : RoundIn (FX none) 0 P l f tmps assign body w (fun e w' => ∃ v A', e = .returned v ∧ HR A' w' ∧ Same A A' ∧ K v A') := by
    refine roundIn_of_wpIn (F := FX none) trivial ?_
    have h1 : assign.wpIn (FX (some l)) 0 P _ ⟨tmps, []⟩ w := h w hw
    refine wpIn_mono h1 ?_
    intro e a w1 ⟨A1, hA1, hs1, he, rec, wr, hg, hwr, hst, hb⟩
    subst he; subst hwr
    obtain ⟨hheap, _, _⟩ := hA1.obj _ _ _ hg
    refine ⟨_, run_beginRound hheap hst, ?_⟩
    have hA2 := hA1.setObj (o := .loop { rec with state := .busy }) hg rfl
    have h2 : body.wpIn (FX (some l)) 0 P _ a _ := hb _ hA2
    refine wpIn_mono h2 ?_
    intro e2 a2 w2 ⟨A3, hA3, hs3, jump, hj, rec2, hg2, hK⟩
    obtain ⟨hheap2, _, _⟩ := hA3.obj _ _ _ hg2
    have hend := fun j => run_endRound (P := P) j hheap2
    have hA4 := hA3.setObj (o := .loop { rec2 with state := if jump.isNone then .ready else .done, pending := jump }) hg2 rfl
    have hs : Same A (A3.set l (.obj (.loop { rec2 with state := if jump.isNone then .ready else .done, pending := jump }) true)) := ⟨(hs1.trans ⟨hs3.1, hs3.2⟩).1, (hs1.trans ⟨hs3.1, hs3.2⟩).2⟩
    cases e2 <;> simp only [jumpOf, Option.some.injEq, reduceCtorEq] at hj
    all_goals (subst hj; exact ⟨_, _, hend _, _, _, rfl, hA4, hs, hK⟩)
  exact hx

def jumpX (Q : Exit → Array Value → List Deferred → AHeap → Prop) (t : Array Value) (ds : List Deferred) (A : AHeap) : Option Code → Prop
  | none => Q .normal t ds A
  | some .ret => Q .ret t ds A
  | some (.exit id) => Q (.exit id) t ds A
  | some (.goto l) => Q (.goto l) t ds A
  | _ => False

theorem run_callFunc {k : FuncId} (h : entersB P k = true) (args : Array Value) (w : World) : (callFunc k args).run P w = .ok (.enter k args) w := by
  unfold entersB at h
  split at h
  · rename_i fn hfn
    simp only [Bool.and_eq_true, Bool.not_eq_true'] at h
    obtain ⟨hb, hnm⟩ := h
    have hb' : fn.body.isNone = false := by cases hx : fn.body <;> simp_all
    have h1 : ¬ fn.name = "runtime.NumGoroutine" := by simpa using hnm
    have h2 : ¬ fn.body = none := fun hx => by rw [hx] at hb'; cases hb'
    simp [callFunc, hfn, h1, h2]
  · cases h

/-- what is asked behind the function that was ranged over -/
def afterX (Q : Exit → Array Value → List Deferred → AHeap → Prop) (t : Array Value) (ds : List Deferred) (l : Nat) (A3 : AHeap) : Prop :=
  ∃ rec, A3.get l = .obj (.loop rec) true ∧ rec.state ≠ .busy ∧ jumpX Q t ds (A3.set l (.obj (.loop { rec with state := .exhausted }) true)) rec.pending

theorem rangePost_of {l : Nat} {B : AHeap} (hs0 : Same A B) {w3 : World} {A3 : AHeap} (hA3 : HR A3 w3) (hs3 : Same B A3) {v : Value} (h : afterX Q t ds l A3) :
    rangePost (FX r) 0 P l (liftX A Q) ⟨t, ds⟩ (.returned v) w3 := by
  obtain ⟨⟨st, pend, fn, tm, pa, as, bo, de⟩, hg, hst, hj⟩ := h
  obtain ⟨hheap, _, _⟩ := hA3.obj _ _ _ hg
  have hA4 := hA3.setObj (o := .loop { state := .exhausted, pending := pend, fn := fn, tmps := tm, params := pa, assign := as, body := bo, defers := de }) hg rfl
  have hs4 : Same A (A3.set l (.obj (.loop { state := .exhausted, pending := pend, fn := fn, tmps := tm, params := pa, assign := as, body := bo, defers := de }) true)) := ⟨(hs0.trans hs3).1, (hs0.trans hs3).2⟩
  refine ⟨_, _, run_endLoop hheap hst, ?_⟩
  cases pend with
  | none => exact ⟨_, hA4, hs4, hj⟩
  | some c =>
    cases c <;> first | exact hj.elim | skip
    · exact wpIn_exit ⟨_, hA4, hs4, hj⟩
    · exact wpIn_goto ⟨_, hA4, hs4, hj⟩
    · exact wpIn_ret ⟨_, hA4, hs4, hj⟩

theorem codeX_rangeFunc_outer {g : Operand} {ps : Array Tmp} {assign body : Code} {gf : Nat} {first captured : Array Value} (hg : (Act.mk t []).eval g = .func (.func gf) first captured) (hent : entersB P gf = true)
    (h : ∀ fn, CallA P gf ((first ++ #[.func (.yield (A.next + 1)) #[] #[]]) ++ captured)
      ((A.push (.obj (.deferred (some [])) true)).push (.obj (.loop { state := .ready, pending := none, fn, tmps := t, params := ps, assign, body, defers := A.next }) true))
      (fun _ A3 => afterX Q t ({ target := .collected A.next, args := #[] } :: ds) (A.next + 1) A3)) : CodeX none P (.rangeFunc g ps assign body) t ds A Q := by
  intro w hw
  refine wpIn_rangeFunc fun fn _ => ?_
  have hn := hw.next
  have hA1 := hw.push (.deferred (some []))
  have hA2 := hA1.push (.loop { state := .ready, pending := none, fn, tmps := t, params := ps, assign, body, defers := A.next })
  have e1 : AObj.of (.deferred (some [])) = .obj (.deferred (some [])) true := rfl
  have e2 : ∀ L, AObj.of (.loop L) = .obj (.loop L) true := fun _ => rfl
  rw [e1] at hA1
  rw [e1, e2] at hA2
  have henter := run_enterLoop_outer (P := P) (w := w) fn t ps assign body
  rw [hn] at henter
  obtain ⟨W, hW⟩ : ∃ W, (w.alloc (.deferred (some []))).alloc (.loop { state := .ready, pending := none, fn, tmps := t, params := ps, assign, body, defers := A.next }) = W := ⟨_, rfl⟩
  rw [hW] at henter
  have hA2 : HR ((A.push (.obj (.deferred (some [])) true)).push (.obj (.loop { state := .ready, pending := none, fn, tmps := t, params := ps, assign, body, defers := A.next }) true)) W := by rw [← hW]; exact hA2
  refine ⟨A.next + 1, [{ target := .collected A.next, args := #[] }], W, { target := .fn (.func gf) captured, args := first ++ #[.func (.yield (A.next + 1)) #[] #[]] }, W, gf, (first ++ #[.func (.yield (A.next + 1)) #[] #[]]) ++ captured, W, henter, ?_, fun _ _ => trivial, ?_, fx_depth _, ?_⟩
  · simp only [resolve, eval_D, hg, Deferred.ofValue]
    simp [Act.eval]
  · simp only [invoke]
    exact run_callFunc hent _ _
  · refine callsFX ((h fn _ hA2).mono ?_)
    rintro e w3 ⟨v, A3, rfl, hA3, hs3, hq⟩
    exact rangePost_of (B := (A.push (.obj (.deferred (some [])) true)).push (.obj (.loop { state := .ready, pending := none, fn, tmps := t, params := ps, assign, body, defers := A.next }) true)) ⟨rfl, rfl⟩ hA3 hs3 hq

theorem codeX_rangeFunc_inner {l0 : Nat} {r0 : Loop} {wr0 : Bool} (hl0 : A.get l0 = .obj (.loop r0) wr0) {g : Operand} {ps : Array Tmp} {assign body : Code} {gf : Nat} {first captured : Array Value} (hg : (Act.mk t []).eval g = .func (.func gf) first captured) (hent : entersB P gf = true)
    (h : ∀ fn, CallA P gf ((first ++ #[.func (.yield A.next) #[] #[]]) ++ captured)
      (A.push (.obj (.loop { state := .ready, pending := none, fn, tmps := t, params := ps, assign, body, defers := r0.defers }) true))
      (fun _ A3 => afterX Q t ds A.next A3)) : CodeX (some l0) P (.rangeFunc g ps assign body) t ds A Q := by
  intro w hw
  refine wpIn_rangeFunc fun fn _ => ?_
  have hn := hw.next
  obtain ⟨hheap0, _, _⟩ := hw.obj _ _ _ hl0
  have hA2 := hw.push (.loop { state := .ready, pending := none, fn, tmps := t, params := ps, assign, body, defers := r0.defers })
  have e2 : ∀ L, AObj.of (.loop L) = .obj (.loop L) true := fun _ => rfl
  rw [e2] at hA2
  have henter := run_enterLoop_inner (P := P) (w := w) hheap0 fn t ps assign body
  rw [hn] at henter
  obtain ⟨W, hW⟩ : ∃ W, w.alloc (.loop { state := .ready, pending := none, fn, tmps := t, params := ps, assign, body, defers := r0.defers }) = W := ⟨_, rfl⟩
  rw [hW] at henter
  have hA2 : HR (A.push (.obj (.loop { state := .ready, pending := none, fn, tmps := t, params := ps, assign, body, defers := r0.defers }) true)) W := by rw [← hW]; exact hA2
  refine ⟨A.next, [], W, { target := .fn (.func gf) captured, args := first ++ #[.func (.yield A.next) #[] #[]] }, W, gf, (first ++ #[.func (.yield A.next) #[] #[]]) ++ captured, W, henter, ?_, fun _ _ => trivial, ?_, fx_depth _, ?_⟩
  · simp only [resolve, eval_D, hg, Deferred.ofValue]
    simp [Act.eval]
  · simp only [invoke]
    exact run_callFunc hent _ _
  · refine callsFX ((h fn _ hA2).mono ?_)
    rintro e w3 ⟨v, A3, rfl, hA3, hs3, hq⟩
    exact rangePost_of (B := A.push (.obj (.loop { state := .ready, pending := none, fn, tmps := t, params := ps, assign, body, defers := r0.defers }) true)) ⟨rfl, rfl⟩ hA3 hs3 hq

/-- a call of yield -/
theorem opX_yield {o : Oper} {K : Value → AHeap → Prop} {l : Nat} {args : Array Value} {rec : Loop} {wr : Bool} (hev : execOp (Act.eval ⟨t, []⟩) o = Instr.yield l args) (hg : A.get l = .obj (.loop rec) wr) (hs : args.size = rec.params.size)
    (h : RoundX P l rec.fn ((rec.params.zip args).foldl (fun tmps (t, a) => tmps.setIfInBounds t a) rec.tmps) rec.assign rec.body A K) : opX P o t A K := by
  unfold opX
  rw [hev]
  intro w hw
  obtain ⟨hheap, _, _⟩ := hw.obj _ _ _ hg
  exact ⟨_, A, w, run_yield hheap hs, hw, .refl _, h⟩

end rules
end Go.Am
