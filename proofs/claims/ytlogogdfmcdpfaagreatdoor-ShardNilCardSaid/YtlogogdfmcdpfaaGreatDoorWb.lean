/-
What a piece of code asks, as a proposition.
-/
import Derived.Test.YtlogogdfmcdpfaaGreatDoorWa
import Derived.Laws.Cells
set_option linter.all false
namespace Go.Am
open Go

structure TI where
  desc : TypeDesc
  size : Nat
  agg : Bool
  zero : List Value
  flds : List (Nat × Nat × Bool)
  esz : Nat
  eagg : Bool
  bytes : Nat

def isAggD : TypeDesc → Bool
  | .struct _ | .array _ _ => true
  | _ => false

def fldsOf (P : Program) : List Field → Option (List (Nat × Nat × Bool))
  | [] => some []
  | f :: fs => match P.info? f.type, P.underlying f.type, fldsOf P fs with
    | some i, some d, some l => some ((f.offset, i.size, isAggD d) :: l)
    | _, _, _ => none

def elemTI (P : Program) (e : TypeId) : Option (Nat × Bool) :=
  match P.info? e, P.underlying e with
  | some i, some d => some (i.size, isAggD d)
  | _, _ => none

def fldsD (P : Program) : TypeDesc → Option (List (Nat × Nat × Bool))
  | .struct fs => fldsOf P fs.toList
  | _ => some []

def elemD (P : Program) : TypeDesc → Option (Nat × Bool)
  | .slice e | .array _ e => elemTI P e
  | _ => some (0, false)

def tiOf (P : Program) (t : TypeId) : Option TI :=
  match P.info? t, P.underlying t with
  | some i, some d =>
    match i.zero, fldsD P d, elemD P d with
    | some z, some fl, some (es, ea) => some ⟨d, i.size, isAggD d, z.cells.toList, fl, es, ea, i.bytes⟩
    | _, _, _ => none
  | _, _ => none

def TabOk (P : Program) (T : Nat → Option TI) : Prop := ∀ t i, T t = some i → tiOf P t = some i

structure TiSpec (P : Program) (t : TypeId) (ti : TI) : Prop where
  und : P.underlying t = some ti.desc
  info : ∃ i z, P.info? t = some i ∧ i.size = ti.size ∧ i.zero = some z ∧ z.cells.toList = ti.zero
  bytes : ∃ i, P.info? t = some i ∧ i.bytes = ti.bytes
  agg : ti.agg = isAggD ti.desc
  flds : fldsD P ti.desc = some ti.flds
  elem : elemD P ti.desc = some (ti.esz, ti.eagg)

theorem TabOk.spec {P : Program} {T : Nat → Option TI} (h : TabOk P T) {t : Nat} {ti : TI} (ht : T t = some ti) : TiSpec P t ti := by
  have := h t ti ht
  unfold tiOf at this
  split at this
  · rename_i i d hi hd
    split at this
    · rename_i z fl es ea hz hfl hel
      simp only [Option.some.injEq] at this
      subst this
      exact ⟨hd, ⟨i, z, hi, rfl, hz, rfl⟩, ⟨i, hi, rfl⟩, rfl, hfl, hel⟩
    · cases this
  · cases this

theorem fldsOf_get {P : Program} : ∀ {fs : List Field} {l : List (Nat × Nat × Bool)}, fldsOf P fs = some l → ∀ {k : Nat} {off sz : Nat} {ag : Bool}, l[k]? = some (off, sz, ag) →
    ∃ f, fs[k]? = some f ∧ f.offset = off ∧ (∃ i, P.info? f.type = some i ∧ i.size = sz) ∧ (∃ d, P.underlying f.type = some d ∧ isAggD d = ag) := by
  intro fs
  induction fs with
  | nil => intro l h k off sz ag hk; simp only [fldsOf, Option.some.injEq] at h; subst h; simp at hk
  | cons f fs ih =>
    intro l h k off sz ag hk
    simp only [fldsOf] at h
    split at h
    · rename_i i d l' hi hd hl
      simp only [Option.some.injEq] at h
      subst h
      cases k with
      | zero =>
        simp only [List.getElem?_cons_zero, Option.some.injEq, Prod.mk.injEq] at hk
        obtain ⟨rfl, rfl, rfl⟩ := hk
        exact ⟨f, rfl, rfl, ⟨i, hi, rfl⟩, ⟨d, hd, rfl⟩⟩
      | succ k => exact ih hl hk
    · cases h

/-! The places where something is to be said. -/

structure Branch (b : Bool) (X Y : Prop) : Prop where
  t : b = true → X
  f : b = false → Y
theorem Branch.tt {X Y : Prop} (h : X) : Branch true X Y := ⟨fun _ => h, fun h => by cases h⟩
theorem Branch.ff {X Y : Prop} (h : Y) : Branch false X Y := ⟨fun h => (by cases h), fun _ => h⟩

structure Req (φ X : Prop) : Prop where
  h : φ
  k : X

structure LoadP (H : Heap) (b o : Nat) (K : Value → Prop) : Prop where
  ex : ∃ vs op wr i v, At H b (.cells vs op wr) i ∧ vs[o]? = some v ∧ K v
structure LoadsP (H : Heap) (b o n : Nat) (K : Value → Prop) : Prop where
  ex : ∃ vs op wr i cs, At H b (.cells vs op wr) i ∧ (vs.drop o).take n = cs ∧ cs.length = n ∧ K (.agg cs.toArray)

inductive Upd : Heap → Nat → AObj → AObj → Heap → Prop
  | here {b o o' H} : Upd ((b, o) :: H) b o o' ((b, o') :: H)
  | there {x b o o' H G} : Upd H b o o' G → Upd (x :: H) b o o' (x :: G)

inductive SetN : List Value → Nat → List Value → List Value → Prop
  | nil {vs n} : SetN vs n [] vs
  | here {v cs u vs vs'} : SetN vs 0 cs vs' → SetN (u :: vs) 0 (v :: cs) (v :: vs')
  | there {n cs u vs vs'} : SetN vs n cs vs' → SetN (u :: vs) (n + 1) cs (u :: vs')

structure StoreP (H : Heap) (b o n : Nat) (cs : List Value) (K : Heap → Prop) : Prop where
  ex : ∃ vs vs' op H', cs.length = n ∧ SetN vs o cs vs' ∧ cs.all (·.oneCell') = true ∧ Upd H b (.cells vs op true) (.cells vs' op true) H' ∧ K H'

structure CallP (P : Program) (k : FuncId) (args : List Value) (H : Heap) (K : Value → Heap → Prop) : Prop where
  h : ∀ A, SL A H → SemA P (callFunc k args.toArray) A (opNext P fun v A' => ∃ H', SL A' H' ∧ KF A H A' H' ∧ K v H')

structure OtherP (P : Program) (o : Oper) (F : Fr) (H : Heap) (K : Value → Heap → Prop) : Prop where
  h : opS P o F H K
structure OtherR (P : Program) (o : Oper) (F : Fr) (H : Heap) (K : Sem Next → Value → Prop) : Prop where
  h : ∃ s v, readS P o F H s v ∧ K s v

/-! Values by list. -/

def withV (F : Fr) (x : Operand) (K : Value → Prop) : Prop :=
  match opv F x with
  | some v => K v
  | none => False

theorem withV.get {F : Fr} {x : Operand} {K : Value → Prop} (h : withV F x K) : ∃ v, opv F x = some v ∧ K v := by
  unfold withV at h
  split at h
  · rename_i v hv; exact ⟨v, hv, h⟩
  · exact h.elim

def withL (F : Fr) : List Operand → (List Value → Prop) → Prop
  | [], K => K []
  | x :: xs, K => withV F x fun v => withL F xs fun vs => K (v :: vs)

theorem withL.get {F : Fr} : ∀ {xs : List Operand} {K : List Value → Prop}, withL F xs K → ∃ vs, opvL F xs = some vs ∧ K vs := by
  intro xs
  induction xs with
  | nil => intro K h; exact ⟨[], rfl, h⟩
  | cons x xs ih =>
    intro K h
    obtain ⟨v, hv, h⟩ := withV.get h
    obtain ⟨vs, hvs, h⟩ := ih h
    exact ⟨v :: vs, by simp [opvL, hv, hvs], h⟩

def pickV : Bool → Value → Value → Value
  | true, a, _ => a
  | false, _, b => b

def appK : List Value → List Value → (List Value → Prop) → Prop
  | [], ys, K => K ys
  | x :: xs, ys, K => appK xs ys fun l => K (x :: l)

theorem appK_eq : ∀ (xs ys : List Value) (K : List Value → Prop), appK xs ys K = K (xs ++ ys) := by
  intro xs
  induction xs with
  | nil => intro ys K; rfl
  | cons x xs ih => intro ys K; simp only [appK, ih]; rfl

/-- cells put over others, from a place on -/
def splice : List Value → Nat → List Value → List Value
  | vs, _, [] => vs
  | [], _, _ => []
  | _ :: vs, 0, c :: cs => c :: splice vs 0 cs
  | v :: vs, n + 1, cs => v :: splice vs n cs

end Go.Am

namespace Go.Am
open Go

section plain
variable {P : Program} {F : Fr} {H : Heap} {d : Option Tmp} {T : TypeId} {ty : TypeId} {p : String} {af : Array Edge} {g : Option (Nat × Bool)} {ti : TI}

theorem TiSpec.typeInfo {t : TypeId} (h : TiSpec P t ti) : ∃ i z, P.info? t = some i ∧ i.size = ti.size ∧ i.zero = some z ∧ z.cells.toList = ti.zero := h.info

theorem pureS_neg {x : Operand} {k : IntKind} {n : Int} (hx : opv F x = some (.int k n)) : pureS P ⟨d, .unOp .neg T x, ty, p, af, g⟩ F (do pure (.value (← Op.unary .neg (.int k n)))) (.int k (k.wrap (0 - n))) :=
  pureS_of (fun t hF => by simp only [execOp, opv_eval hF hx]) (fun _ => rfl)

theorem pureS_extract {x : Operand} {vs : Array Value} {i : Nat} {v : Value} (hx : opv F x = some (.tuple vs)) (hv : vs.toList[i]? = some v) :
    pureS P ⟨d, .extract x i, ty, p, af, g⟩ F (do pure (.value (← Instr.extract (.tuple vs) i))) v :=
  pureS_of (fun t hF => by simp only [execOp, opv_eval hF hx]) (fun w => by
    have : vs[i]? = some v := by simpa using hv
    simp [Instr.extract, this])

theorem pureS_makeFunc {fn : Fn} {fs cs : List Operand} {vs us : List Value} (h1 : opvL F fs = some vs) (h2 : opvL F cs = some us) :
    pureS P ⟨d, .makeFunc fn fs.toArray cs.toArray, ty, p, af, g⟩ F (do pure (.value (← Instr.makeFunc fn vs.toArray us.toArray))) (.func fn vs.toArray us.toArray) :=
  pureS_of (fun t hF => by simp only [execOp, List.map_toArray, opvL_eval hF h1, opvL_eval hF h2]) (fun w => rfl)

def partV (cs : List Value) (off sz : Nat) : Bool → Option Value
  | true => some (.agg ((cs.drop off).take sz).toArray)
  | false => cs[off]?

theorem run_part {t : TypeId} {cs : Array Value} {off : Nat} {i : TypeInfo} {dd : TypeDesc} {v : Value} {w : World} (hi : P.info? t = some i) (hd : P.underlying t = some dd) (hv : partV cs.toList off i.size (isAggD dd) = some v) :
    (part t cs off).run P w = .ok v w := by
  have hagg : isAgg t = (do match ← underlying t with | .struct _ | .array _ _ => pure true | _ => pure false) := rfl
  cases hb : isAggD dd with
  | true =>
    rw [hb] at hv
    simp only [partV, Option.some.injEq] at hv
    subst hv
    have : ((cs.toList.drop off).take i.size).toArray = cs.extract off (off + i.size) := by
      apply Array.ext'
      simp [Array.toList_extract, List.extract]
    rw [this]
    cases dd <;> simp [isAggD] at hb <;> simp [part, isAgg, underlying, hd, sizeOf, typeInfo, hi]
  | false =>
    rw [hb] at hv
    simp only [partV] at hv
    have hv' : cs[off]? = some v := by simpa using hv
    cases dd <;> simp [isAggD] at hb <;> simp [part, isAgg, underlying, hd, hv']

theorem pureS_field {x : Operand} {fl off sz : Nat} {ag : Bool} {cs : Array Value} {fs : Array Field} {v : Value} (hT : TiSpec P T ti) (hds : ti.desc = .struct fs) (hf : ti.flds[fl]? = some (off, sz, ag))
    (hx : opv F x = some (.agg cs)) (hv : partV cs.toList off sz ag = some v) : pureS P ⟨d, .field T x fl, ty, p, af, g⟩ F (do pure (.value (← Instr.field T (.agg cs) fl))) v := by
  refine pureS_of (fun t hF => by simp only [execOp, opv_eval hF hx]) (fun w => ?_)
  have hfl := hT.flds
  rw [hds] at hfl
  obtain ⟨f, h1, rfl, ⟨i, h2, rfl⟩, dd, h3, rfl⟩ := fldsOf_get hfl hf
  have h1' : fs[fl]? = some f := by simpa using h1
  have hu := hT.und
  rw [hds] at hu
  simp [Instr.field, underlying, hu, h1', asAgg, run_part h2 h3 hv]

theorem addr_add (b o n : Nat) : (Addr.add ⟨b, o, none⟩ n) = ⟨b, o + n, none⟩ := by
  unfold Addr.add
  split
  · rename_i h; subst h; rfl
  · rfl

theorem pureS_fieldAddr' {x : Operand} {fl b o off sz : Nat} {ag : Bool} {fs : Array Field} (hT : TiSpec P T ti) (hds : ti.desc = .struct fs) (hf : ti.flds[fl]? = some (off, sz + 1, ag))
    (hx : opv F x = some (.pointer (some ⟨b, o, none⟩))) :
    pureS P ⟨d, .fieldAddr T x fl, ty, p, af, g⟩ F (do pure (.value (← Instr.fieldAt T (.pointer (some ⟨b, o, none⟩)) fl))) (.pointer (some ⟨b, o + off, none⟩)) := by
  have hfl := hT.flds
  rw [hds] at hfl
  obtain ⟨f, h1, rfl, ⟨i, h2, h4⟩, dd, h3, rfl⟩ := fldsOf_get hfl hf
  have := pureS_fieldAddr (P := P) (F := F) (d := d) (T := T) (ty := ty) (p := p) (af := af) (g := g) (x := x) (fl := fl) (a := ⟨b, o, none⟩) (fs := fs) (f := f) (n := sz)
    (by rw [hT.und, hds]) (by simpa using h1) (by simp [h2, h4]) hx
  rwa [addr_add] at this

theorem pureS_indexAddr_slice {x y : Operand} {b o len cap : Nat} {e : TypeId} {k : IntKind} {i : Int} (hT : TiSpec P T ti) (hds : ti.desc = .slice e)
    (hx : opv F x = some (.slice (some ⟨b, o, none⟩) len cap)) (hy : opv F y = some (.int k i)) (h0 : 0 ≤ i) (h1 : i < len) :
    pureS P ⟨d, .indexAddr T x y, ty, p, af, g⟩ F (do pure (.value (← Instr.indexAt T (.slice (some ⟨b, o, none⟩) len cap) (.int k i)))) (.pointer (some ⟨b, o + i.toNat * ti.esz, none⟩)) := by
  refine pureS_of (fun t hF => by simp only [execOp, opv_eval hF hx, opv_eval hF hy]) (fun w => ?_)
  have hu := hT.und
  rw [hds] at hu
  have he := hT.elem
  rw [hds] at he
  simp only [elemD, elemTI] at he
  split at he
  · rename_i ei ed hi hd
    simp only [Option.some.injEq, Prod.mk.injEq] at he
    rw [← addr_add, ← he.1]
    simp [Instr.indexAt, asIntOf, underlying, hu, h0, h1, sizeOf, typeInfo, hi]
  · cases he

theorem pureS_indexAddr_array {x y : Operand} {b o len : Nat} {e : TypeId} {k : IntKind} {i : Int} (hT : TiSpec P T ti) (hds : ti.desc = .array len e)
    (hx : opv F x = some (.pointer (some ⟨b, o, none⟩))) (hy : opv F y = some (.int k i)) (h0 : 0 ≤ i) (h1 : i < len) :
    pureS P ⟨d, .indexAddr T x y, ty, p, af, g⟩ F (do pure (.value (← Instr.indexAt T (.pointer (some ⟨b, o, none⟩)) (.int k i)))) (.pointer (some ⟨b, o + i.toNat * ti.esz, none⟩)) := by
  refine pureS_of (fun t hF => by simp only [execOp, opv_eval hF hx, opv_eval hF hy]) (fun w => ?_)
  have hu := hT.und
  rw [hds] at hu
  have he := hT.elem
  rw [hds] at he
  simp only [elemD, elemTI] at he
  split at he
  · rename_i ei ed hi hd
    simp only [Option.some.injEq, Prod.mk.injEq] at he
    rw [← addr_add, ← he.1]
    simp [Instr.indexAt, asIntOf, underlying, hu, h0, h1, sizeOf, typeInfo, hi, Instr.sureAddr]
  · cases he

theorem pureS_index_string {x y : Operand} {s : ByteArray} {k : IntKind} {i : Int} {c : UInt8} (hT : TiSpec P T ti) (hds : ti.desc = .string)
    (hx : opv F x = some (.string s)) (hy : opv F y = some (.int k i)) (h0 : 0 ≤ i) (h1 : s[i.toNat]? = some c) :
    pureS P ⟨d, .index T x y, ty, p, af, g⟩ F (do pure (.value (← Instr.index T (.string s) (.int k i)))) (.int .u8 c.toNat) := by
  refine pureS_of (fun t hF => by simp only [execOp, opv_eval hF hx, opv_eval hF hy]) (fun w => ?_)
  have hu := hT.und
  rw [hds] at hu
  simp [Instr.index, asIntOf, underlying, hu, h0, h1]

/-- equal or not, of what is no number and no text: by what the comparison comes to -/
def isEq : BinOp → Option Bool
  | .eql => some true
  | .neq => some false
  | _ => none

def eqVal : TypeDesc → Value → Value → Option Bool
  | .bool, .bool a, .bool b => some (a == b)
  | .pointer _, .pointer none, .pointer none => some true
  | .pointer _, .pointer none, .pointer (some _) => some false
  | .pointer _, .pointer (some _), .pointer none => some false
  | .slice _, .slice none _ _, .slice none _ _ => some true
  | .slice _, .slice none _ _, .slice (some _) _ _ => some false
  | .slice _, .slice (some _) _ _, .slice none _ _ => some false
  | .map _ _, .map none, .map none => some true
  | .map _ _, .map (some _), .map none => some false
  | .map _ _, .map none, .map (some _) => some false
  | .func _ _ _, .nilFunc, .nilFunc => some true
  | .func _ _ _, .func _ _ _, .nilFunc => some false
  | .func _ _ _, .nilFunc, .func _ _ _ => some false
  | _, _, _ => none

def eqRes (e : Bool) (b : Bool) : Bool :=
  match e with
  | true => b
  | false => !b

theorem run_equal {t : TypeId} {a b : Value} {dd : TypeDesc} {r : Bool} (hd : P.underlying t = some dd) (hv : eqVal dd a b = some r) (w : World) : (Op.equal t a b).run P w = .ok r w := by
  show (Op.equalIn (9999 + 1) t a b).run P w = _
  unfold Op.equalIn
  unfold eqVal at hv
  split at hv <;> first | cases hv | skip
  all_goals simp [underlying, hd]

theorem binOp_eqVal {op : BinOp} {t : TypeId} {a b : Value} {dd : TypeDesc} {e r : Bool} (he : isEq op = some e) (hv : eqVal dd a b = some r) :
    binOp op t a b = (do pure (.bool (eqRes e (← Op.equal t a b)))) ∧ ∀ x y, eqGuard op t x y a b = pure () := by
  unfold eqVal at hv
  split at hv <;> first | cases hv | skip
  all_goals (cases op <;> simp only [isEq, Option.some.injEq, reduceCtorEq] at he <;> subst he)
  all_goals exact ⟨rfl, fun _ _ => rfl⟩

theorem pureS_eqVal {op : BinOp} {x y : Operand} {yt : TypeId} {a b : Value} {e r : Bool} (hT : TiSpec P T ti) (hx : opv F x = some a) (hy : opv F y = some b) (he : isEq op = some e) (hv : eqVal ti.desc a b = some r) :
    pureS P ⟨d, .binOp op T x y yt, ty, p, af, g⟩ F (do pure (.value (← (do eqGuard op T x y a b; binOp op T a b)))) (.bool (eqRes e r)) := by
  refine pureS_of (fun t hF => by simp only [execOp, opv_eval hF hx, opv_eval hF hy]) (fun w => ?_)
  obtain ⟨h1, h2⟩ := binOp_eqVal (t := T) he hv
  rw [h2, h1]
  simp [run_equal hT.und hv]
end plain
end Go.Am

namespace Go.Am
open Go

theorem Upd.at {H G : Heap} {b : Nat} {o o' : AObj} (h : Upd H b o o' G) : ∃ i, At H b o i ∧ G = hset H i o' := by
  induction h with
  | here => exact ⟨0, .here, rfl⟩
  | there _ ih =>
    obtain ⟨i, h1, h2⟩ := ih
    exact ⟨i + 1, .there h1, by rw [h2]; rfl⟩

def setL : List Value → Nat → List Value → List Value
  | vs, _, [] => vs
  | vs, n, c :: cs => setL (vs.set n c) (n + 1) cs

theorem setL_succ : ∀ (cs vs : List Value) (u : Value) (n : Nat), setL (u :: vs) (n + 1) cs = u :: setL vs n cs := by
  intro cs
  induction cs with
  | nil => intros; rfl
  | cons c cs ih => intro vs u n; simp only [setL, List.set_cons_succ]; exact ih _ _ _

theorem SetN.eq {vs cs vs' : List Value} {n : Nat} (h : SetN vs n cs vs') : setL vs n cs = vs' ∧ (cs ≠ [] → n + cs.length ≤ vs.length) := by
  induction h with
  | nil => exact ⟨rfl, fun h => absurd rfl h⟩
  | here _ ih =>
    rename_i v cs u vs vs' _
    refine ⟨?_, fun _ => ?_⟩
    · simp only [setL, List.set_cons_zero, setL_succ, ih.1]
    · by_cases h : cs = []
      · subst h; simp
      · have := ih.2 h; simp only [List.length_cons]; omega
  | there _ ih =>
    refine ⟨by rw [setL_succ, ih.1], fun h => ?_⟩
    have := ih.2 h
    simp only [List.length_cons]; omega

theorem AHeap.set_same {A : AHeap} {b : Nat} {x : AObj} (h : A.get b = x) : A.set b x = A := by
  obtain ⟨get, next, base, own⟩ := A
  simp only [AHeap.set, AHeap.mk.injEq, and_self, and_true]
  funext i
  by_cases hi : i = b
  · subst hi; simp [← h]
  · simp [hi]

theorem AHeap.set_set (A : AHeap) (b : Nat) (x y : AObj) : (A.set b x).set b y = A.set b y := by
  simp only [AHeap.set, AHeap.mk.injEq, and_self, and_true]
  funext i
  by_cases hi : i = b <;> simp [hi]

theorem wpA_storeCells {P : Program} {b o : Nat} {op : Bool} {Q : Unit → AHeap → Prop} : ∀ (cs vs : List Value) (i : Nat) (A : AHeap), A.get b = .cells vs op true → (cs ≠ [] → o + i + cs.length ≤ vs.length) → cs.all (·.oneCell') = true →
    Q () (A.set b (.cells (setL vs (o + i) cs) op true)) → wpA P (storeCells ⟨b, o, none⟩ cs i) A Q := by
  intro cs
  induction cs with
  | nil =>
    intro vs i A hg _ _ hq
    simp only [setL] at hq
    rw [AHeap.set_same hg] at hq
    exact hq
  | cons c cs ih =>
    intro vs i A hg hl h1 hq
    have hl := hl (by simp)
    simp only [List.length_cons] at hl
    simp only [List.all_cons, Bool.and_eq_true] at h1
    simp only [storeCells]
    rw [wpA_bind, addr_add]
    refine ⟨vs, op, hg, rfl, by show o + i < vs.length; omega, h1.1, ?_⟩
    refine ih (vs.set (o + i) c) (i + 1) _ (by simp [AHeap.set]) (fun _ => by simp; omega) h1.2 ?_
    rw [AHeap.set_set]
    exact hq

section mem
variable {P : Program} {F : Fr} {H : Heap} {d : Option Tmp} {T : TypeId} {ty : TypeId} {p : String} {af : Array Edge} {g : Option (Nat × Bool)} {ti : TI} {K : Value → Heap → Prop}

theorem isAgg_eq {t : TypeId} {dd : TypeDesc} {w : World} (hd : P.underlying t = some dd) : (isAgg t).run P w = .ok (isAggD dd) w := by
  cases dd <;> simp [isAgg, underlying, hd, isAggD]

theorem SL.cell {A : AHeap} {w : World} {b o i : Nat} {vs : List Value} {op wr : Bool} {v : Value} (h : SL A H) (hw : HR A w) (ha : At H b (.cells vs op wr) i) (hv : vs[o]? = some v) : w.cell? ⟨b, o, none⟩ = some v :=
  hw.cell (by simp [AHeap.cell?, h.at ha, hv])

theorem readS_load {x : Operand} {b o i : Nat} {vs : List Value} {op wr : Bool} {v : Value} (hT : TiSpec P T ti) (hag : ti.agg = false) (hx : opv F x = some (.pointer (some ⟨b, o, none⟩))) (ha : At H b (.cells vs op wr) i) (hv : vs[o]? = some v) :
    readS P ⟨d, .load T x, ty, p, af, g⟩ F H (do pure (.value (← Instr.loadAt T (.pointer (some ⟨b, o, none⟩))))) v := by
  refine ⟨fun t hF => by simp only [execOp, opv_eval hF hx], fun A hH w hw => ?_⟩
  have hc := hH.cell hw ha hv
  have hagg := isAgg_eq (w := w) hT.und
  rw [← hT.agg, hag] at hagg
  simp [Instr.loadAt, Instr.sureAddr, loadVar, hagg, hc]

theorem readS_loads {x : Operand} {b o i : Nat} {vs cs : List Value} {op wr : Bool} (hT : TiSpec P T ti) (hag : ti.agg = true) (hx : opv F x = some (.pointer (some ⟨b, o, none⟩))) (ha : At H b (.cells vs op wr) i) (hv : (vs.drop o).take ti.size = cs)
    (hl : cs.length = ti.size) :
    readS P ⟨d, .load T x, ty, p, af, g⟩ F H (do pure (.value (← Instr.loadAt T (.pointer (some ⟨b, o, none⟩))))) (.agg cs.toArray) := by
  refine ⟨fun t hF => by simp only [execOp, opv_eval hF hx], fun A hH w hw => ?_⟩
  have hagg := isAgg_eq (w := w) hT.und
  rw [← hT.agg, hag] at hagg
  obtain ⟨inf, z, hi, hs, _, _⟩ := hT.info
  have hc : (loadCells ⟨b, o, none⟩ ti.size).run P w = .ok cs.toArray w := by
    rw [← hl]
    refine run_loadCells_list w ⟨b, o, none⟩ cs fun j v hj => ?_
    rw [addr_add]
    refine hH.cell hw ha ?_
    have hjl : j < cs.length := (List.getElem?_eq_some_iff.1 hj).1
    rw [← hv, List.getElem?_take_of_lt (by omega), List.getElem?_drop] at hj
    exact hj
  simp [Instr.loadAt, Instr.sureAddr, loadVar, hagg, sizeOf, typeInfo, hi, hs, hc]

def valCells : Value → List Value
  | .agg cs => cs.toList
  | v => [v]

theorem valCells_eq (v : Value) : v.cells.toList = valCells v := by cases v <;> rfl

theorem opS_of_wp {o : Oper} {s : Sem Next} (hs : ∀ t, TR F t → execOp (Act.eval ⟨t, []⟩) o = s)
    (h : ∀ A, SL A H → wpA P s A (fun nx A' => (nx = .skip ∧ ∃ H', SL A' H' ∧ KF A H A' H' ∧ K undef H') ∨ ∃ v, nx = .value v ∧ ∃ H', SL A' H' ∧ KF A H A' H' ∧ K v H')) : opS P o F H K := by
  intro A t hF hH
  unfold opA
  rw [hs t hF]
  refine (SemA.of_wp (h A hH)).mono fun nx A' _ hx => ?_
  rcases hx with ⟨rfl, hx⟩ | ⟨v, rfl, hx⟩
  · exact hx
  · exact hx

theorem opS_store {x y : Operand} {b o : Nat} {v : Value} {vs vs' : List Value} {op : Bool} {H' : Heap} (hT : TiSpec P T ti) (hx : opv F x = some (.pointer (some ⟨b, o, none⟩))) (hy : opv F y = some v) (hl : (valCells v).length = ti.size)
    (hs : SetN vs o (valCells v) vs') (h1 : (valCells v).all (·.oneCell') = true) (hu : Upd H b (.cells vs op true) (.cells vs' op true) H') (hk : K undef H') : opS P ⟨d, .store T x y, ty, p, af, g⟩ F H K := by
  refine opS_of_wp (s := do Instr.storeAt T (.pointer (some ⟨b, o, none⟩)) v; pure .skip) (fun t hF => by simp only [execOp, opv_eval hF hx, opv_eval hF hy]) fun A hH => ?_
  obtain ⟨i, ha, rfl⟩ := hu.at
  obtain ⟨inf, z, hi, hsz, _, _⟩ := hT.info
  have hsize : v.cells.size = inf.size := by rw [hsz, ← hl, ← valCells_eq]; simp
  have h2 := hs.eq
  simp only [Instr.storeAt, Instr.sureAddr, storeVar, sizeOf, typeInfo, program, wpA_bind, wpA_pure]
  simp only [wpA, hi, wpA_pure]
  rw [if_neg (by rw [hsize]; simp), valCells_eq]
  refine wpA_storeCells _ vs 0 A (hH.at ha) (fun h => by simpa using h2.2 h) h1 ?_
  rw [Nat.add_zero, h2.1]
  obtain ⟨k1, k2⟩ := hH.set ha (.cells vs' op true)
  first | exact .inl ⟨rfl, _, k1, k2, hk⟩ | exact .inl ⟨trivial, _, k1, k2, hk⟩

theorem of_new (cs : Array Value) (e : TypeId) : AObj.of (.cells cs e) = .cells cs.toList false true := by
  simp [AObj.of]

theorem opS_alloc (hT : TiSpec P T ti) (hk : ∀ b, K (.pointer (some ⟨b, 0, none⟩)) ((b, .cells ti.zero false true) :: H)) : opS P ⟨d, .alloc T, ty, p, af, g⟩ F H K := by
  refine opS_of_wp (s := do pure (.value (← Instr.alloc T true (.tuple #[])))) (fun t hF => by simp only [execOp]) fun A hH => ?_
  obtain ⟨inf, z, hi, hsz, hz, hc⟩ := hT.info
  simp only [Instr.alloc, zeroValue, typeInfo, program, newVar, newRow, newObj, wpA_bind, wpA_pure]
  simp only [wpA, hi, hz, wpA_pure, of_new, hc]
  obtain ⟨k1, k2⟩ := hH.push (.cells ti.zero false true)
  exact .inr ⟨_, rfl, _, k1, k2, hk _⟩

theorem opS_box {x : Operand} {v : Value} (hx : opv F x = some v) (hk : ∀ b, K (.pointer (some ⟨b, 0, none⟩)) ((b, .cells (valCells v) false true) :: H)) : opS P ⟨d, .box T x, ty, p, af, g⟩ F H K := by
  refine opS_of_wp (s := do pure (.value (← Instr.box T v))) (fun t hF => by simp only [execOp, opv_eval hF hx]) fun A hH => ?_
  simp only [Instr.box, newVar, newRow, newObj, wpA_bind, wpA_pure]
  simp only [wpA, wpA_pure, of_new, valCells_eq]
  obtain ⟨k1, k2⟩ := hH.push (.cells (valCells v) false true)
  exact .inr ⟨_, rfl, _, k1, k2, hk _⟩

/-! Structs and arrays put together. -/

theorem splice_length : ∀ (vs : List Value) (n : Nat) (cs : List Value), (splice vs n cs).length = vs.length := by
  intro vs
  induction vs with
  | nil => intro n cs; cases cs <;> rfl
  | cons v vs ih =>
    intro n cs
    cases cs with
    | nil => rfl
    | cons c cs => cases n <;> simp [splice, ih]

theorem foldl_set_splice : ∀ (cs : List Value) (off k : Nat) (vs : List Value), off + k + cs.length ≤ vs.length →
    ((cs.zipIdx k).foldl (fun (a : Array Value) (x : Value × Nat) => a.setIfInBounds (off + x.2) x.1) vs.toArray) = (setL vs (off + k) cs).toArray := by
  intro cs
  induction cs with
  | nil => intros; rfl
  | cons c cs ih =>
    intro off k vs h
    simp only [List.length_cons] at h
    simp only [List.zipIdx_cons, List.foldl_cons, setL]
    have := ih off (k + 1) (vs.set (off + k) c) (by simp; omega)
    rw [show off + k + 1 = off + (k + 1) by omega, ← this]
    simp

theorem setL_splice : ∀ (vs : List Value) (n : Nat) (cs : List Value), n + cs.length ≤ vs.length → setL vs n cs = splice vs n cs := by
  intro vs
  induction vs with
  | nil => intro n cs h; cases cs with
    | nil => rfl
    | cons c cs => simp at h
  | cons v vs ih =>
    intro n cs h
    cases cs with
    | nil => rfl
    | cons c cs =>
      cases n with
      | zero =>
        simp only [setL, splice, List.set_cons_zero, setL_succ]
        rw [ih 0 cs (by simp at h ⊢; omega)]
      | succ n =>
        rw [setL_succ, ih n (c :: cs) (by simp at h ⊢; omega)]
        rfl

def fillL (place : Nat → Option (Nat × Nat)) : List Value → List (Nat × Value) → Option (List Value)
  | cells, [] => some cells
  | cells, (i, v) :: rest => match place i with
    | none => none
    | some (off, size) => bif Nat.beq (valCells v).length size && Nat.ble (off + size) cells.length then fillL place (splice cells off (valCells v)) rest else none

theorem fill_eq {place : Nat → Option (Nat × Nat)} : ∀ {parts : List (Nat × Value)} {cells r : List Value}, fillL place cells parts = some r → Instr.fill place cells.toArray parts = some r.toArray := by
  intro parts
  induction parts with
  | nil => intro cells r h; simp only [fillL, Option.some.injEq] at h; subst h; rfl
  | cons x parts ih =>
    obtain ⟨i, v⟩ := x
    intro cells r h
    simp only [fillL] at h
    cases hp : place i with
    | none => rw [hp] at h; cases h
    | some os =>
      obtain ⟨off, size⟩ := os
      rw [hp] at h
      simp only at h
      cases hb : (Nat.beq (valCells v).length size && Nat.ble (off + size) cells.length) with
      | false => rw [hb] at h; cases h
      | true =>
        rw [hb] at h
        simp only [cond_true] at h
        simp only [Bool.and_eq_true] at hb
        have h1 : (valCells v).length = size := Nat.eq_of_beq_eq_true hb.1
        have h2 : off + size ≤ cells.length := Nat.le_of_ble_eq_true hb.2
        have hcs : v.cells = (valCells v).toArray := by rw [← valCells_eq]
        simp only [Instr.fill, hp]
        rw [if_neg (by rw [hcs]; simp; omega)]
        rw [← ih h]
        congr 1
        rw [hcs]
        have := foldl_set_splice (valCells v) off 0 cells (by omega)
        rw [← Array.foldl_toList]
        simp only [Nat.add_zero] at this
        rw [setL_splice _ _ _ (by omega)] at this
        rw [← this]
        congr 1
        simp

def partsOp (F : Fr) : List (Nat × Operand) → Option (List (Nat × Value))
  | [] => some []
  | (i, x) :: xs => match opv F x, partsOp F xs with
    | some v, some l => some ((i, v) :: l)
    | _, _ => none

theorem partsOp_eval {t : Array Value} (h : TR F t) : ∀ {xs : List (Nat × Operand)} {l : List (Nat × Value)}, partsOp F xs = some l → xs.map (fun x => (x.1, (Act.mk t []).eval x.2)) = l := by
  intro xs
  induction xs with
  | nil => intro l hx; simp only [partsOp, Option.some.injEq] at hx; subst hx; rfl
  | cons x xs ih =>
    obtain ⟨i, x⟩ := x
    intro l hx
    simp only [partsOp] at hx
    split at hx
    · rename_i v l' hv hl
      simp only [Option.some.injEq] at hx
      subst hx
      rw [List.map_cons, ih hl, opv_eval h hv]
    · cases hx

def placeF (fl : List (Nat × Nat × Bool)) (i : Nat) : Option (Nat × Nat) :=
  match fl[i]? with
  | some (off, sz, _) => some (off, sz)
  | none => none

theorem fldsOf_run {w : World} : ∀ {fs : List Field} {l : List (Nat × Nat × Bool)}, fldsOf P fs = some l →
    (fs.mapM (m := Sem) fun f => Prod.mk f.offset <$> sizeOf f.type).run P w = .ok (l.map fun x => (x.1, x.2.1)) w := by
  intro fs
  induction fs with
  | nil => intro l h; simp only [fldsOf, Option.some.injEq] at h; subst h; rfl
  | cons f fs ih =>
    intro l h
    simp only [fldsOf] at h
    split at h
    · rename_i i dd l' hi hd hl
      simp only [Option.some.injEq] at h
      subst h
      have hs : (sizeOf f.type).run P w = .ok i.size w := by simp [sizeOf, typeInfo, hi]
      have := ih hl
      simp [List.mapM_cons, hs, this]
    · cases h

theorem pureS_build {ps : List (Nat × Operand)} {l : List (Nat × Value)} {fs : Array Field} {r : List Value} (hT : TiSpec P T ti) (hds : ti.desc = .struct fs) (hp : partsOp F ps = some l) (hf : fillL (placeF ti.flds) ti.zero l = some r) :
    pureS P ⟨d, .build T ps.toArray, ty, p, af, g⟩ F (do pure (.value (← Instr.build T l.toArray))) (.agg r.toArray) := by
  refine pureS_of (fun t hF => ?_) (fun w => ?_)
  · simp only [execOp, List.map_toArray]
    rw [← partsOp_eval hF hp]
  · have hu := hT.und
    rw [hds] at hu
    have hfl := hT.flds
    rw [hds] at hfl
    obtain ⟨inf, z, hi, hsz, hz, hc⟩ := hT.info
    have hrun := fldsOf_run (w := w) hfl
    have hfill := fill_eq hf
    have hm : (fs.mapM (m := Sem) fun f => Prod.mk f.offset <$> sizeOf f.type).run P w = .ok ((ti.flds.map fun x => (x.1, x.2.1)).toArray) w := by
      rw [← Array.toArray_toList (xs := fs)]
      rw [List.mapM_toArray]
      rw [Sem.run_map, hrun]
      rfl
    have hpl : (fun x : Nat => Option.map (fun x => (x.1, x.2.1)) ti.flds[x]?) = placeF ti.flds := by
      funext i
      simp only [placeF]
      cases ti.flds[i]? <;> rfl
    have hzc : z.cells = ti.zero.toArray := by rw [← hc]
    simp only [Instr.build, zeroValue, typeInfo, underlying]
    simp [hi, hz, hu, hm, hpl, hzc, hfill]

def rep (z : List Value) : Nat → List Value
  | 0 => []
  | n + 1 => z ++ rep z n

end mem
end Go.Am

namespace Go.Am
open Go

def fdelK : Fr → Nat → (Fr → Prop) → Prop
  | [], _, K => K []
  | (j, v) :: F, i, K => bif Nat.beq j i then fdelK F i K else fdelK F i fun G => K ((j, v) :: G)

theorem fdelK_eq : ∀ (F : Fr) (i : Nat) (K : Fr → Prop), fdelK F i K = K (fdel F i) := by
  intro F
  induction F with
  | nil => intros; rfl
  | cons x F ih =>
    obtain ⟨j, v⟩ := x
    intro i K
    simp only [fdelK, fdel]
    cases Nat.beq j i <;> simp only [cond_true, cond_false, ih]

def fputK (F : Fr) (d : Option Tmp) (v : Value) (K : Fr → Prop) : Prop :=
  match d with
  | some d => fdelK F d fun G => K ((d, v) :: G)
  | none => K F

theorem fputK_eq (F : Fr) (d : Option Tmp) (v : Value) (K : Fr → Prop) : fputK F d v K = K (fput F d v) := by
  cases d with
  | none => rfl
  | some d => simp only [fputK, fdelK_eq]; rfl

def spliceK : List Value → Nat → List Value → (List Value → Prop) → Prop
  | vs, _, [], K => K vs
  | [], _, _ :: _, K => K []
  | _ :: vs, 0, c :: cs, K => spliceK vs 0 cs fun l => K (c :: l)
  | v :: vs, n + 1, c :: cs, K => spliceK vs n (c :: cs) fun l => K (v :: l)

theorem spliceK_eq : ∀ (vs : List Value) (n : Nat) (cs : List Value) (K : List Value → Prop), spliceK vs n cs K = K (splice vs n cs) := by
  intro vs
  induction vs with
  | nil => intro n cs K; cases cs <;> simp [spliceK, splice]
  | cons v vs ih =>
    intro n cs K
    cases cs with
    | nil => simp [spliceK, splice]
    | cons c cs => cases n <;> simp only [spliceK, splice, ih]

def fillK (place : Nat → Option (Nat × Nat)) : List Value → List (Nat × Value) → (List Value → Prop) → Prop
  | cells, [], K => K cells
  | cells, (i, v) :: rest, K => match place i with
    | none => False
    | some (off, size) => bif Nat.beq (valCells v).length size && Nat.ble (off + size) cells.length then spliceK cells off (valCells v) fun l => fillK place l rest K else False

theorem fillK.get {place : Nat → Option (Nat × Nat)} : ∀ {parts : List (Nat × Value)} {cells : List Value} {K : List Value → Prop}, fillK place cells parts K → ∃ r, fillL place cells parts = some r ∧ K r := by
  intro parts
  induction parts with
  | nil => intro cells K h; exact ⟨cells, rfl, h⟩
  | cons x parts ih =>
    obtain ⟨i, v⟩ := x
    intro cells K h
    simp only [fillK] at h
    simp only [fillL]
    cases hp : place i with
    | none => rw [hp] at h; exact h.elim
    | some os =>
      obtain ⟨off, size⟩ := os
      rw [hp] at h
      simp only at h ⊢
      cases hb : (Nat.beq (valCells v).length size && Nat.ble (off + size) cells.length) with
      | false => rw [hb] at h; exact h.elim
      | true =>
        rw [hb] at h
        simp only [cond_true, spliceK_eq] at h ⊢
        exact ih h

def withP (F : Fr) : List (Nat × Operand) → (List (Nat × Value) → Prop) → Prop
  | [], K => K []
  | (i, x) :: xs, K => withV F x fun v => withP F xs fun vs => K ((i, v) :: vs)

theorem withP.get {F : Fr} : ∀ {xs : List (Nat × Operand)} {K : List (Nat × Value) → Prop}, withP F xs K → ∃ vs, partsOp F xs = some vs ∧ K vs := by
  intro xs
  induction xs with
  | nil => intro K h; exact ⟨[], rfl, h⟩
  | cons x xs ih =>
    obtain ⟨i, x⟩ := x
    intro K h
    obtain ⟨v, hv, h⟩ := withV.get h
    obtain ⟨vs, hvs, h⟩ := ih h
    exact ⟨(i, v) :: vs, by simp [partsOp, hv, hvs], h⟩

def dropTakeK : List Value → Nat → Nat → (List Value → Prop) → Prop
  | _, 0, 0, K => K []
  | [], _, _, K => K []
  | v :: vs, 0, n + 1, K => dropTakeK vs 0 n fun l => K (v :: l)
  | _ :: vs, o + 1, n, K => dropTakeK vs o n K

theorem dropTakeK_eq : ∀ (vs : List Value) (o n : Nat) (K : List Value → Prop), dropTakeK vs o n K = K ((vs.drop o).take n) := by
  intro vs
  induction vs with
  | nil => intro o n K; cases o <;> cases n <;> simp [dropTakeK]
  | cons v vs ih =>
    intro o n K
    cases o with
    | zero => cases n <;> simp [dropTakeK, ih]
    | succ o => simp [dropTakeK, ih]

def isShift : BinOp → Bool
  | .shl | .shr => true
  | _ => false
def isDiv : BinOp → Bool
  | .quo | .rem => true
  | _ => false
def isAdd : BinOp → Bool
  | .add => true
  | _ => false

def kindB : IntKind → IntKind → Bool
  | .i8, .i8 | .i16, .i16 | .i32, .i32 | .i64, .i64 | .u8, .u8 | .u16, .u16 | .u32, .u32 | .u64, .u64 => true
  | _, _ => false

theorem kindB_eq {k j : IntKind} (h : kindB k j = true) : k = j := by cases k <;> cases j <;> first | rfl | (simp [kindB] at h)

def shiftR (op : BinOp) (k : IntKind) (a b : Int) : Int :=
  match op with
  | .shl => k.wrap (a * 2 ^ (min b.toNat k.bits))
  | _ => a.fdiv (2 ^ (min b.toNat k.bits))
def divR (op : BinOp) (k : IntKind) (a b : Int) : Int :=
  match op with
  | .quo => k.wrap (a.tdiv b)
  | _ => a.tmod b

def binE (P : Program) (o : Oper) (F : Fr) (H : Heap) (T : Nat → Option TI) (op : BinOp) (t : TypeId) (a b : Value) (Kp : Value → Prop) (Kr : Sem Next → Value → Prop) : Prop :=
  match a, b with
  | .int k m, .int j n =>
    bif isShift op then Req (0 ≤ n) (Kp (.int k (shiftR op k m n)))
    else bif kindB k j then
      bif isDiv op then Req (n ≠ 0) (Kp (.int k (divR op k m n)))
      else match binI op k m n with
        | some v => Kp v
        | none => OtherR P o F H Kr
    else False
  | .string x, .string y =>
    bif isAdd op then Req (((x.size + y.size : Nat) : Int) ≤ IntKind.i64.max) (Kp (.string (x ++ y)))
    else match binT op x y with
      | some v => Kp v
      | none => OtherR P o F H Kr
  | _, _ => match isEq op, T t with
    | some e, some ti => match eqVal ti.desc a b with
      | some r => Kp (.bool (eqRes e r))
      | none => OtherR P o F H Kr
    | _, _ => OtherR P o F H Kr

theorem binE_sound {P : Program} {o : Oper} {F : Fr} {H : Heap} {T : Nat → Option TI} (hT : TabOk P T) {op : BinOp} {t yt : TypeId} {x y : Operand} {a b : Value} {Kp : Value → Prop} {Kr : Sem Next → Value → Prop}
    (ho : o.op = .binOp op t x y yt) (hx : opv F x = some a) (hy : opv F y = some b) (h : binE P o F H T op t a b Kp Kr) :
    (∃ s v, pureS P o F s v ∧ Kp v) ∨ (∃ s v, readS P o F H s v ∧ Kr s v) := by
  obtain ⟨dst, op', ty, p, af, g⟩ := o
  simp only at ho
  subst ho
  unfold binE at h
  split at h
  · rename_i k m j n
    cases hs : isShift op with
    | true =>
      rw [hs] at h
      obtain ⟨h1, h2⟩ := h
      refine .inl ⟨_, _, pureS_shift (m := shiftR op k m n) ?_ hx hy h1 ?_, h2⟩
      · cases op <;> simp [isShift] at hs <;> simp
      · cases op <;> simp [isShift] at hs <;> simp [shiftR]
    | false =>
      rw [hs] at h
      simp only [cond_false] at h
      cases hk : kindB k j with
      | false => rw [hk] at h; exact h.elim
      | true =>
        rw [hk] at h
        obtain rfl := kindB_eq hk
        simp only [cond_true] at h
        cases hd : isDiv op with
        | true =>
          rw [hd] at h
          obtain ⟨h1, h2⟩ := h
          refine .inl ⟨_, _, pureS_div (m := divR op k m n) ?_ hx hy h1 ?_, h2⟩
          · cases op <;> simp [isDiv] at hd <;> simp
          · cases op <;> simp [isDiv] at hd <;> simp [divR]
        | false =>
          rw [hd] at h
          simp only [cond_false] at h
          split at h
          · rename_i v hv; exact .inl ⟨_, v, pureS_bin hx hy hv, h⟩
          · exact .inr h.h
  · rename_i x' y'
    cases hs : isAdd op with
    | true =>
      rw [hs] at h
      obtain ⟨h1, h2⟩ := h
      have : op = .add := by cases op <;> first | rfl | (simp [isAdd] at hs)
      subst this
      exact .inl ⟨_, _, pureS_concat hx hy h1, h2⟩
    | false =>
      rw [hs] at h
      simp only [cond_false] at h
      split at h
      · rename_i v hv; exact .inl ⟨_, v, pureS_binT hx hy hv, h⟩
      · exact .inr h.h
  · split at h
    · rename_i e ti he hti
      split at h
      · rename_i r hr; exact .inl ⟨_, _, pureS_eqVal (hT.spec hti) hx hy he hr, h⟩
      · exact .inr h.h
    · exact .inr h.h

end Go.Am

namespace Go.Am
open Go

section more
variable {P : Program} {F : Fr} {H : Heap} {d : Option Tmp} {T : TypeId} {ty : TypeId} {p : String} {af : Array Edge} {g : Option (Nat × Bool)} {ti : TI} {K : Value → Heap → Prop}

theorem pureS_convS {x : Operand} {src dst : TypeId} {s : ByteArray} {ts td : TI} (hs : TiSpec P src ts) (hd : TiSpec P dst td) (hds : td.desc = .string) (hx : opv F x = some (.string s)) :
    pureS P ⟨d, .convert src dst x, ty, p, af, g⟩ F (do pure (.value (← convert src dst (.string s)))) (.string s) :=
  pureS_of (fun t hF => by simp only [execOp, opv_eval hF hx]) (fun w => by
    have h1 := hs.und
    have h2 := hd.und
    rw [hds] at h2
    cases hc : ts.desc <;> rw [hc] at h1 <;> simp [convert, underlying, h1, h2])

theorem pureS_index_array {x y : Operand} {cs : Array Value} {len : Nat} {e : TypeId} {k : IntKind} {i : Int} {v : Value} (hT : TiSpec P T ti) (hds : ti.desc = .array len e)
    (hx : opv F x = some (.agg cs)) (hy : opv F y = some (.int k i)) (h0 : 0 ≤ i) (h1 : i < len) (hv : partV cs.toList (i.toNat * ti.esz) ti.esz ti.eagg = some v) :
    pureS P ⟨d, .index T x y, ty, p, af, g⟩ F (do pure (.value (← Instr.index T (.agg cs) (.int k i)))) v := by
  refine pureS_of (fun t hF => by simp only [execOp, opv_eval hF hx, opv_eval hF hy]) (fun w => ?_)
  have hu := hT.und
  rw [hds] at hu
  have he := hT.elem
  rw [hds] at he
  simp only [elemD, elemTI] at he
  split at he
  · rename_i ei ed hi hd
    simp only [Option.some.injEq, Prod.mk.injEq] at he
    rw [← he.1, ← he.2] at hv
    simp [Instr.index, asIntOf, underlying, hu, h0, h1, sizeOf, typeInfo, hi, run_part hi hd hv]
  · cases he

theorem pureS_len {x : Operand} {t : TypeId} {v : Value} {n : Nat} (hT : TiSpec P t ti) (hx : opv F x = some v)
    (hn : (∃ s, ti.desc = .string ∧ v = .string s ∧ n = s.size) ∨ (∃ e a c, ti.desc = .slice e ∧ v = .slice a n c) ∨ (∃ e, ti.desc = .array n e)) :
    pureS P ⟨d, .call { callee := .builtin .len, args := #[x], argTypes := #[t] }, ty, p, af, g⟩ F (do pure (.value (← Builtin.len_ #[t] ty #[v]))) (.int .i64 n) := by
  refine pureS_of (fun tt hF => ?_) (fun w => ?_)
  · simp only [execOp, resolve]
    simp [opv_eval hF hx, invoke, builtin]
  · have hu := hT.und
    rcases hn with ⟨s, h1, rfl, rfl⟩ | ⟨e, a, c, h1, rfl⟩ | ⟨e, h1⟩
    · rw [h1] at hu; simp [Builtin.len_, underlying, hu, goInt]
    · rw [h1] at hu; simp [Builtin.len_, underlying, hu, goInt]
    · rw [h1] at hu; simp [Builtin.len_, underlying, hu, goInt]

theorem range_zero (z : List Value) : ∀ n : Nat, ((Array.range (n * z.length)).map fun i => z.toArray[i % z.toArray.size]!).toList = rep z n := by
  intro n
  rw [Array.toList_map, Array.toList_range]
  induction n with
  | zero => simp [rep]
  | succ n ih =>
    simp only [rep]
    rw [← ih]
    rcases Nat.eq_zero_or_pos z.length with h0 | h0
    · simp [h0, List.length_eq_zero_iff.1 h0]
    · apply List.ext_getElem?
      intro i
      by_cases hi : i < z.length
      · rw [List.getElem?_append_left hi, List.getElem?_map, List.getElem?_range (by rw [Nat.succ_mul]; omega)]
        simp [Nat.mod_eq_of_lt hi, hi]
      · rw [List.getElem?_append_right (by omega), List.getElem?_map, List.getElem?_map]
        by_cases h2 : i < (n + 1) * z.length
        · have h3 : i - z.length < n * z.length := by rw [Nat.succ_mul] at h2; omega
          rw [List.getElem?_range h2, List.getElem?_range h3]
          have : i % z.length = (i - z.length) % z.length := Nat.mod_eq_sub_mod (by omega)
          simp [this]
        · have h3 : n * z.length ≤ i - z.length := by rw [Nat.succ_mul] at h2; omega
          rw [List.getElem?_eq_none (by simp; omega), List.getElem?_eq_none (by simp; omega)]

theorem opS_buildSlice {ps : List (Nat × Operand)} {l : List (Nat × Value)} {e : TypeId} {te : TI} {len : Nat} {r : List Value} (hT : TiSpec P T ti) (hds : ti.desc = .slice e) (hte : TiSpec P e te) (hz : te.zero.length = te.size)
    (hs : 0 < te.size) (hlen : 0 < len) (hmax : len * te.size ≤ 2 ^ 24) (hp : partsOp F ps = some l) (hf : fillL (fun i => some (i * te.size, te.size)) (rep te.zero len) l = some r)
    (hk : ∀ b, K (.slice (some ⟨b, 0, none⟩) len len) ((b, .cells r false true) :: H)) : opS P ⟨d, .buildSlice T len ps.toArray, ty, p, af, g⟩ F H K := by
  refine opS_of_wp (s := do pure (.value (← Instr.buildSlice T len l.toArray))) (fun t hF => by simp only [execOp, List.map_toArray]; rw [← partsOp_eval hF hp]) fun A hH => ?_
  obtain ⟨inf, z, hi, hsz, hzz, hc⟩ := hte.info
  have hu := hT.und
  rw [hds] at hu
  have hne : ¬ (len * inf.size = 0) := by rw [hsz]; exact Nat.mul_ne_zero (by omega) (by omega)
  have hle : ¬ (len * inf.size > 2 ^ 24) := by rw [hsz]; omega
  have hzc : z.cells = te.zero.toArray := by rw [← hc]
  have hzs : z.cells.size = inf.size := by rw [hzc, hsz]; simpa using hz
  have hrow : ((Array.range (len * inf.size)).map fun i => z.cells[i % z.cells.size]!) = (rep te.zero len).toArray := by
    apply Array.ext'
    have := range_zero te.zero len
    rw [hz, ← hsz] at this
    rw [hzc]
    exact this
  have hfill := fill_eq hf
  rw [← hsz] at hfill
  simp only [Instr.buildSlice, zeroValue, sizeOf, typeInfo, underlying, program, newRow, newObj, wpA_bind, wpA_pure, wpA, hi, hu, hzz, if_neg hle, if_neg hne, hrow, hfill, of_new]
  obtain ⟨k1, k2⟩ := hH.push (.cells r false true)
  exact .inr ⟨_, rfl, _, k1, k2, hk _⟩

theorem opS_callS {o : Oper} {fo : Operand} {k : FuncId} {xs : List Operand} {ats : Array TypeId} {vs : List Value} {first captured : Array Value} {args : Array Value}
    (ho : o.op = .call { callee := .value fo, args := xs.toArray, argTypes := ats }) (hfo : opv F fo = some (.func (.func k) first captured)) (hxs : opvL F xs = some vs)
    (hargs : (first ++ vs.toArray) ++ captured = args) (hc : ∀ A, SL A H → SemA P (callFunc k args) A (opNext P fun v A' => ∃ H', SL A' H' ∧ KF A H A' H' ∧ K v H')) : opS P o F H K := by
  intro A t hF hH
  unfold opA
  have hev : execOp (Act.eval ⟨t, []⟩) o = callFunc k args := by
    obtain ⟨dst, op, ty, pos, af, g⟩ := o
    simp only at ho
    subst ho
    simp only [execOp, resolve, opv_eval hF hfo, Deferred.ofValue]
    have : xs.toArray.map (Act.mk t []).eval = vs.toArray := by
      rw [List.map_toArray, opvL_eval hF hxs]
    rw [this, ← hargs]
    rfl
  rw [hev]
  exact hc A hH

end more

def partK (cs : List Value) (off sz : Nat) (ag : Bool) (K : Value → Prop) : Prop :=
  match ag with
  | true => dropTakeK cs off sz fun l => K (.agg l.toArray)
  | false => match cs[off]? with
    | some v => K v
    | none => False

theorem partK.get {cs : List Value} {off sz : Nat} {ag : Bool} {K : Value → Prop} (h : partK cs off sz ag K) : ∃ v, partV cs off sz ag = some v ∧ K v := by
  cases ag with
  | true => simp only [partK, dropTakeK_eq] at h; exact ⟨_, rfl, h⟩
  | false =>
    simp only [partK] at h
    split at h
    · rename_i v hv; exact ⟨v, hv, h⟩
    · exact h.elim

def strIx (s : ByteArray) (i : Int) (K : Value → Prop) : Prop := ∃ c, s[i.toNat]? = some c ∧ K (.int .u8 c.toNat)

/-- what may act: where acting is asked for -/
def effK (e : Bool) (X : Prop) : Prop :=
  match e with
  | true => X
  | false => False

def opE (P : Program) (T : Nat → Option TI) (e : Bool) (o : Oper) (F : Fr) (H : Heap) (Kp : Value → Prop) (Kr : Sem Next → Value → Prop) (Ke : Value → Heap → Prop) : Prop :=
  match o.op with
  | .move x => withV F x Kp
  | .assign x => withV F x Kp
  | .pick c a b => withV F c fun vc => match vc with
    | .bool cb => withV F a fun va => withV F b fun vb => Kp (pickV cb va vb)
    | _ => False
  | .nilCheck x => withV F x fun v => match v with
    | .pointer (some a) => Kp (.pointer (some a))
    | _ => False
  | .binOp op t x y _ => withV F x fun a => withV F y fun b => binE P o F H T op t a b Kp Kr
  | .unOp op _ x => withV F x fun v => match op, v with
    | .not, .bool b => Kp (.bool !b)
    | .neg, .int k n => Kp (.int k (k.wrap (0 - n)))
    | .xor, .int k n => Kp (.int k (k.wrap (BitVec.ofInt k.bits (if k.signed then -1 else k.max) ^^^ BitVec.ofInt k.bits n).toNat))
    | _, _ => OtherR P o F H Kr
  | .convert src dst x => withV F x fun v => match T src, T dst with
    | some _, some td => match v, td.desc with
      | .int _ n, .int k => Kp (.int k (k.wrap n))
      | .string s, .string => Kp (.string s)
      | .slice _ _ _, .string => OtherR P o F H Kr
      | _, _ => effK e (OtherP P o F H Ke)
    | _, _ => False
  | .extract x i => withV F x fun v => match v with
    | .tuple vs => match vs.toList[i]? with
      | some v => Kp v
      | none => False
    | _ => False
  | .makeFunc fn fs cs => withL F fs.toList fun vs => withL F cs.toList fun us => Kp (.func fn vs.toArray us.toArray)
  | .field t x fl => withV F x fun v => match v, T t with
    | .agg cs, some ti => match ti.desc, ti.flds[fl]? with
      | .struct _, some (off, sz, ag) => partK cs.toList off sz ag Kp
      | _, _ => False
    | _, _ => False
  | .fieldAddr t x fl => withV F x fun v => match v, T t with
    | .pointer (some ⟨b, ofs, none⟩), some ti => match ti.desc, ti.flds[fl]? with
      | .struct _, some (off, _ + 1, _) => Kp (.pointer (some ⟨b, ofs + off, none⟩))
      | _, _ => OtherR P o F H Kr
    | _, _ => False
  | .indexAddr t x y => withV F x fun v => withV F y fun j => match T t, v, j with
    | some ti, .slice (some ⟨b, ofs, none⟩) len _, .int _ i => match ti.desc with
      | .slice _ => Req (0 ≤ i ∧ i < len) (Kp (.pointer (some ⟨b, ofs + i.toNat * ti.esz, none⟩)))
      | _ => False
    | some ti, .pointer (some ⟨b, ofs, none⟩), .int _ i => match ti.desc with
      | .array len _ => Req (0 ≤ i ∧ i < len) (Kp (.pointer (some ⟨b, ofs + i.toNat * ti.esz, none⟩)))
      | _ => False
    | _, _, _ => False
  | .index t x y => withV F x fun v => withV F y fun j => match T t, v, j with
    | some ti, .string s, .int _ i => match ti.desc with
      | .string => Req (0 ≤ i) (strIx s i Kp)
      | _ => False
    | some ti, .agg cs, .int _ i => match ti.desc with
      | .array len _ => Req (0 ≤ i ∧ i < len) (partK cs.toList (i.toNat * ti.esz) ti.esz ti.eagg Kp)
      | _ => False
    | _, _, _ => False
  | .load t x => withV F x fun v => match v, T t with
    | .pointer (some ⟨b, ofs, none⟩), some ti => match ti.agg with
      | false => LoadP H b ofs (Kr (do pure (.value (← Instr.loadAt t (.pointer (some ⟨b, ofs, none⟩))))))
      | true => LoadsP H b ofs ti.size (Kr (do pure (.value (← Instr.loadAt t (.pointer (some ⟨b, ofs, none⟩))))))
    | _, _ => False
  | .store t x y => withV F x fun v => withV F y fun u => match v, T t with
    | .pointer (some ⟨b, ofs, none⟩), some ti => effK e (StoreP H b ofs ti.size (valCells u) (Ke undef))
    | _, _ => False
  | .alloc t => match T t with
    | some ti => effK e (∀ b, Ke (.pointer (some ⟨b, 0, none⟩)) ((b, .cells ti.zero false true) :: H))
    | none => False
  | .box _ x => withV F x fun v => effK e (∀ b, Ke (.pointer (some ⟨b, 0, none⟩)) ((b, .cells (valCells v) false true) :: H))
  | .build t ps => withP F ps.toList fun l => match T t with
    | some ti => match ti.desc with
      | .struct _ => fillK (placeF ti.flds) ti.zero l fun r => Kp (.agg r.toArray)
      | _ => OtherR P o F H Kr
    | none => False
  | .buildSlice t len ps => withP F ps.toList fun l => match T t with
    | some ti => match ti.desc with
      | .slice el => match T el with
        | some te => bif Nat.beq te.zero.length te.size && Nat.ble 1 te.size && Nat.ble 1 len && Nat.ble (len * te.size) 16777216 then
            fillK (fun i => some (i * te.size, te.size)) (rep te.zero len) l fun r => effK e (∀ b, Ke (.slice (some ⟨b, 0, none⟩) len len) ((b, .cells r false true) :: H))
          else effK e (OtherP P o F H Ke)
        | none => False
      | _ => False
    | none => False
  | .call c => match c.callee with
    | .value fo => withV F fo fun fv => withL F c.args.toList fun vs => match fv with
      | .func (.func k) first cap => appK first.toList vs fun l1 => appK l1 cap.toList fun l => effK e (CallP P k l H Ke)
      | _ => effK e (OtherP P o F H Ke)
    | .builtin .len => match c.args.toList, c.argTypes.toList with
      | [x], [t] => withV F x fun v => match T t with
        | some ti => match ti.desc, v with
          | .string, .string s => Kp (.int .i64 s.size)
          | .slice _, .slice _ n _ => Kp (.int .i64 n)
          | .array n _, _ => Kp (.int .i64 n)
          | _, _ => OtherR P o F H Kr
        | none => False
      | _, _ => False
    | .builtin .append => effK e (OtherP P o F H Ke)
    | .builtin .copy => effK e (OtherP P o F H Ke)
    | .builtin .delete => effK e (OtherP P o F H Ke)
    | .builtin .clear => effK e (OtherP P o F H Ke)
    | .builtin _ => OtherR P o F H Kr
    | _ => effK e (OtherP P o F H Ke)
  | .lookup _ _ _ _ => OtherR P o F H Kr
  | .slice _ _ _ _ _ => OtherR P o F H Kr
  | .makeInterface _ _ => OtherR P o F H Kr
  | .typeAssert _ _ _ _ => OtherR P o F H Kr
  | _ => effK e (OtherP P o F H Ke)

end Go.Am

namespace Go.Am
open Go

def opR (P : Program) (e : Bool) (o : Oper) (F : Fr) (H : Heap) (Kp : Value → Prop) (Kr : Sem Next → Value → Prop) (Ke : Value → Heap → Prop) : Prop :=
  (∃ s v, pureS P o F s v ∧ Kp v) ∨ (∃ s v, readS P o F H s v ∧ Kr s v) ∨ (e = true ∧ opS P o F H Ke)

theorem effK.get {e : Bool} {X : Prop} (h : effK e X) : e = true ∧ X := by
  cases e with
  | true => exact ⟨rfl, h⟩
  | false => exact h.elim

theorem opE_sound {P : Program} {T : Nat → Option TI} (hT : TabOk P T) {e : Bool} {o : Oper} {F : Fr} {H : Heap} {Kp : Value → Prop} {Kr : Sem Next → Value → Prop} {Ke : Value → Heap → Prop}
    (h : opE P T e o F H Kp Kr Ke) : opR P e o F H Kp Kr Ke := by
  have hR : ∀ {o : Oper}, OtherR P o F H Kr → opR P e o F H Kp Kr Ke := fun h => .inr (.inl h.h)
  have hO : ∀ {o : Oper}, effK e (OtherP P o F H Ke) → opR P e o F H Kp Kr Ke := fun h => .inr (.inr (effK.get h |>.imp id fun h => h.h))
  obtain ⟨dst, op, ty, p, af, g⟩ := o
  cases op with
  | move x => obtain ⟨v, hv, hk⟩ := withV.get h; exact .inl ⟨_, v, pureS_move hv, hk⟩
  | assign x => obtain ⟨v, hv, hk⟩ := withV.get h; exact .inl ⟨_, v, pureS_assign hv, hk⟩
  | pick c a b =>
    obtain ⟨v, hv, hk⟩ := withV.get h
    split at hk
    · rename_i cb
      obtain ⟨va, hva, hk⟩ := withV.get hk
      obtain ⟨vb, hvb, hk⟩ := withV.get hk
      refine .inl ⟨_, _, pureS_pick hv hva hvb, ?_⟩
      cases cb <;> exact hk
    · exact hk.elim
  | nilCheck x =>
    obtain ⟨v, hv, hk⟩ := withV.get h
    split at hk
    · exact .inl ⟨_, _, pureS_nilCheck hv, hk⟩
    · exact hk.elim
  | binOp op t x y yt =>
    obtain ⟨a, ha, h⟩ := withV.get h
    obtain ⟨b, hb, h⟩ := withV.get h
    rcases binE_sound hT rfl ha hb h with h | h
    · exact .inl h
    · exact .inr (.inl h)
  | unOp op t x =>
    obtain ⟨v, hv, hk⟩ := withV.get h
    split at hk
    · exact .inl ⟨_, _, pureS_not hv, hk⟩
    · exact .inl ⟨_, _, pureS_neg hv, hk⟩
    · exact .inl ⟨_, _, pureS_xor1 hv rfl, hk⟩
    · exact hR hk
  | convert src dst x =>
    obtain ⟨v, hv, hk⟩ := withV.get h
    split at hk
    · rename_i ts td hts htd
      split at hk
      · rename_i j n k hd
        exact .inl ⟨_, _, pureS_conv (hT.spec hts).und (by rw [(hT.spec htd).und, hd]) hv, hk⟩
      · rename_i s hd
        exact .inl ⟨_, _, pureS_convS (hT.spec hts) (hT.spec htd) hd hv, hk⟩
      · exact hR hk
      · exact hO hk
    · exact hk.elim
  | extract x i =>
    obtain ⟨v, hv, hk⟩ := withV.get h
    split at hk
    · rename_i vs
      split at hk
      · rename_i u hu; exact .inl ⟨_, _, pureS_extract hv hu, hk⟩
      · exact hk.elim
    · exact hk.elim
  | makeFunc fn fs cs =>
    obtain ⟨fs⟩ := fs
    obtain ⟨cs⟩ := cs
    obtain ⟨vs, hvs, h⟩ := withL.get h
    obtain ⟨us, hus, h⟩ := withL.get h
    exact .inl ⟨_, _, pureS_makeFunc hvs hus, h⟩
  | field t x fl =>
    obtain ⟨v, hv, hk⟩ := withV.get h
    split at hk
    · rename_i cs ti hti
      split at hk
      · rename_i fs off sz ag hd hf
        obtain ⟨u, hu, hk⟩ := partK.get hk
        exact .inl ⟨_, _, pureS_field (hT.spec hti) hd hf hv hu, hk⟩
      · exact hk.elim
    · exact hk.elim
  | fieldAddr t x fl =>
    obtain ⟨v, hv, hk⟩ := withV.get h
    split at hk
    · rename_i b ofs ti hti
      split at hk
      · rename_i fs off sz ag hd hf
        exact .inl ⟨_, _, pureS_fieldAddr' (hT.spec hti) hd hf hv, hk⟩
      · exact hR hk
    · exact hk.elim
  | indexAddr t x y =>
    obtain ⟨v, hv, hk⟩ := withV.get h
    obtain ⟨j, hj, hk2⟩ := withV.get hk
    clear hk
    have hk := hk2
    clear hk2
    split at hk
    · rename_i ti b ofs len cap k i hti
      split at hk
      · rename_i e hd
        obtain ⟨⟨h0, h1⟩, hk⟩ := hk
        exact .inl ⟨_, _, pureS_indexAddr_slice (hT.spec hti) hd hv hj h0 h1, hk⟩
      · exact hk.elim
    · rename_i ti b ofs k i hti
      split at hk
      · rename_i len e hd
        obtain ⟨⟨h0, h1⟩, hk⟩ := hk
        exact .inl ⟨_, _, pureS_indexAddr_array (hT.spec hti) hd hv hj h0 h1, hk⟩
      · exact hk.elim
    · exact hk.elim
  | index t x y =>
    obtain ⟨v, hv, hk⟩ := withV.get h
    obtain ⟨j, hj, hk2⟩ := withV.get hk
    clear hk
    have hk := hk2
    clear hk2
    split at hk
    · rename_i ti s k i hti
      split at hk
      · rename_i hd
        obtain ⟨h0, c, h1, hk⟩ := hk
        exact .inl ⟨_, _, pureS_index_string (hT.spec hti) hd hv hj h0 h1, hk⟩
      · exact hk.elim
    · rename_i ti cs k i hti
      split at hk
      · rename_i len e hd
        obtain ⟨⟨h0, h1⟩, hk⟩ := hk
        obtain ⟨u, hu, hk⟩ := partK.get hk
        exact .inl ⟨_, _, pureS_index_array (hT.spec hti) hd hv hj h0 h1 hu, hk⟩
      · exact hk.elim
    · exact hk.elim
  | load t x =>
    obtain ⟨v, hv, hk⟩ := withV.get h
    split at hk
    · rename_i b ofs ti hti
      cases hag : ti.agg with
      | false =>
        rw [hag] at hk
        obtain ⟨vs, op, wr, i, u, ha, hu, hk⟩ := hk.ex
        exact .inr (.inl ⟨_, _, readS_load (hT.spec hti) hag hv ha hu, hk⟩)
      | true =>
        rw [hag] at hk
        obtain ⟨vs, op, wr, i, cs, ha, hu, hl, hk⟩ := hk.ex
        exact .inr (.inl ⟨_, _, readS_loads (hT.spec hti) hag hv ha hu hl, hk⟩)
    · exact hk.elim
  | store t x y =>
    obtain ⟨v, hv, hk⟩ := withV.get h
    obtain ⟨u, hu, hk2⟩ := withV.get hk
    clear hk
    have hk := hk2
    clear hk2
    split at hk
    · rename_i b ofs ti hti
      obtain ⟨he, hk⟩ := effK.get hk
      obtain ⟨vs, vs', op, H', hl, hs, h1, hup, hk⟩ := hk.ex
      exact .inr (.inr ⟨he, (opS_store (hT.spec hti) hv hu hl hs h1 hup hk)⟩)
    · exact hk.elim
  | alloc t =>
    simp only [opE] at h
    split at h
    · rename_i ti hti; exact .inr (.inr ⟨(effK.get h).1, opS_alloc (hT.spec hti) (effK.get h).2⟩)
    · exact h.elim
  | box t x => obtain ⟨v, hv, hk⟩ := withV.get h; exact .inr (.inr ⟨(effK.get hk).1, opS_box hv (effK.get hk).2⟩)
  | build t ps =>
    obtain ⟨ps⟩ := ps
    obtain ⟨l, hl, hk⟩ := withP.get h
    split at hk
    · rename_i ti hti
      split at hk
      · rename_i fs hd
        obtain ⟨r, hr, hk⟩ := fillK.get hk
        exact .inl ⟨_, _, pureS_build (hT.spec hti) hd hl hr, hk⟩
      · exact hR hk
    · exact hk.elim
  | buildSlice t len ps =>
    obtain ⟨ps⟩ := ps
    obtain ⟨l, hl, hk⟩ := withP.get h
    split at hk
    · rename_i ti hti
      split at hk
      · rename_i e hd
        split at hk
        · rename_i te hte
          cases hb : (Nat.beq te.zero.length te.size && Nat.ble 1 te.size && Nat.ble 1 len && Nat.ble (len * te.size) 16777216) with
          | false => rw [hb] at hk; exact hO hk
          | true =>
            rw [hb] at hk
            simp only [Bool.and_eq_true] at hb
            obtain ⟨⟨⟨h1, h2⟩, h3⟩, h4⟩ := hb
            obtain ⟨r, hr, hk⟩ := fillK.get hk
            exact .inr (.inr ⟨(effK.get hk).1, opS_buildSlice (hT.spec hti) hd (hT.spec hte) (Nat.eq_of_beq_eq_true h1) (Nat.le_of_ble_eq_true h2) (Nat.le_of_ble_eq_true h3) (Nat.le_of_ble_eq_true h4) hl hr (effK.get hk).2⟩)
        · exact hk.elim
      · exact hk.elim
    · exact hk.elim
  | call c =>
    obtain ⟨callee, ⟨xs⟩, ⟨ats⟩⟩ := c
    cases callee with
    | value fo =>
      obtain ⟨fv, hfv, hk⟩ := withV.get h
      obtain ⟨vs, hvs, hk⟩ := withL.get hk
      split at hk
      · rename_i k first cap
        simp only [appK_eq] at hk
        obtain ⟨he, hk⟩ := effK.get hk
        refine .inr (.inr ⟨he, opS_callS rfl hfv hvs ?_ hk.h⟩)
        apply Array.ext'
        simp
      · exact hO hk
    | invoke r m => exact hO h
    | builtin b =>
      cases b <;> first | exact hO h | exact hR h | skip
      simp only [opE] at h
      split at h
      · rename_i x t
        obtain ⟨v, hv, hk⟩ := withV.get h
        split at hk
        · rename_i ti hti
          split at hk
          · rename_i s hd; exact .inl ⟨_, _, pureS_len (hT.spec hti) hv (.inl ⟨s, hd, rfl, rfl⟩), hk⟩
          · rename_i e a n c hd; exact .inl ⟨_, _, pureS_len (hT.spec hti) hv (.inr (.inl ⟨e, a, c, hd, rfl⟩)), hk⟩
          · rename_i n e hd; exact .inl ⟨_, _, pureS_len (hT.spec hti) hv (.inr (.inr ⟨e, hd⟩)), hk⟩
          · exact hR hk
        · exact hk.elim
      · exact h.elim
  | lookup _ _ _ _ => exact hR h
  | slice _ _ _ _ _ => exact hR h
  | makeInterface _ _ => exact hR h
  | typeAssert _ _ _ _ => exact hR h
  | _ => exact hO h

end Go.Am

namespace Go.Am
open Go

def guardE (ops : Array Oper) (F : Fr) (o : Oper) (run skip : Fr → Prop) : Prop :=
  match o.guard with
  | none => run F
  | some (j, want) => match (ops[j]?).bind (·.dst) with
    | some d => match fget F d with
      | some (.bool c) => Branch c (fputK F (some d) (.bool true) fun G => bif want then run G else skip G) (fputK F (some d) (.bool false) fun G => bif want then skip G else run G)
      | _ => False
    | none => False

/-- a slot may be told in other words -/
theorem TR.same {F : Fr} {t : Array Value} (h : TR F t) {d : Nat} {v : Value} (hd : fget F d = some v) : TR (fput F (some d) v) t := by
  intro i u hm
  simp only [fput] at hm
  rcases List.mem_cons.1 hm with hm | hm
  · simp only [Prod.mk.injEq] at hm
    obtain ⟨rfl, rfl⟩ := hm
    exact h _ _ (fget_mem hd)
  · exact h _ _ (fdel_mem hm).1

theorem fget_put (F : Fr) (d : Nat) (v : Value) : fget (fput F (some d) v) d = some v := by
  simp [fput, fget]

theorem guardE.cases {ops : Array Oper} {F : Fr} {o : Oper} {run skip : Fr → Prop} (h : guardE ops F o run skip) :
    (o.guard = none ∧ run F) ∨ ∃ G, (∀ t, TR F t → TR G t) ∧ ((guardS ops G o true ∧ run G) ∨ (guardS ops G o false ∧ skip G)) := by
  unfold guardE at h
  split at h
  · rename_i hg; exact .inl ⟨hg, h⟩
  · rename_i j want hg
    split at h
    · rename_i d hd
      split at h
      · rename_i c hc
        cases c with
        | true =>
          have := h.t rfl
          rw [fputK_eq] at this
          refine .inr ⟨_, fun t ht => ht.same hc, ?_⟩
          cases want with
          | true => exact .inl ⟨⟨j, true, d, true, hg, hd, fget_put _ _ _, rfl⟩, this⟩
          | false => exact .inr ⟨⟨j, false, d, true, hg, hd, fget_put _ _ _, rfl⟩, this⟩
        | false =>
          have := h.f rfl
          rw [fputK_eq] at this
          refine .inr ⟨_, fun t ht => ht.same hc, ?_⟩
          cases want with
          | true => exact .inr ⟨⟨j, true, d, false, hg, hd, fget_put _ _ _, rfl⟩, this⟩
          | false => exact .inl ⟨⟨j, false, d, false, hg, hd, fget_put _ _ _, rfl⟩, this⟩
      · exact h.elim
    · exact h.elim

def opsE (P : Program) (T : Nat → Option TI) (N : Nat) (ops : Array Oper) : List Oper → Fr → Heap → (Fr → Heap → Prop) → Prop
  | [], F, H, K => K F H
  | o :: l, F, H, K => bif dstOk N o.dst then
      guardE ops F o
        (fun F => opE P T true o F H (fun v => fputK F o.dst v fun G => opsE P T N ops l G H K) (fun _ v => fputK F o.dst v fun G => opsE P T N ops l G H K) (fun v H' => fputK F o.dst v fun G => opsE P T N ops l G H' K))
        (fun F => fputK F o.dst undef fun G => opsE P T N ops l G H K)
    else False

theorem OpsS.of_TR {P : Program} {N : Nat} {ops : Array Oper} {K : Fr → Heap → Prop} {l : List Oper} {F G : Fr} {H : Heap} (hFG : ∀ t, TR F t → TR G t) (h : OpsS P N ops K l G H) : OpsS P N ops K l F H :=
  fun A t hs hF hH => h A t hs (hFG t hF) hH

theorem opsS_onS {P : Program} {N : Nat} {ops : Array Oper} {K : Fr → Heap → Prop} {l : List Oper} {F : Fr} {H : Heap} {o : Oper} (hg : onS ops F o) (hd : dstOk N o.dst = true)
    (h : ∀ K' : Value → Heap → Prop, (∀ v H', OpsS P N ops K l (fput F o.dst v) H' → K' v H') → opS P o F H K') : OpsS P N ops K (o :: l) F H := by
  rcases hg with hg | hg
  · exact opsS_op hg hd h
  · exact opsS_on hg hd h

theorem opsE_sound {P : Program} {T : Nat → Option TI} (hT : TabOk P T) {N : Nat} {ops : Array Oper} : ∀ (l : List Oper) {F : Fr} {H : Heap} {K : Fr → Heap → Prop}, opsE P T N ops l F H K → OpsS P N ops K l F H := by
  intro l
  induction l with
  | nil => intro F H K h; exact opsS_nil h
  | cons o l ih =>
    intro F H K h
    simp only [opsE] at h
    cases hd : dstOk N o.dst with
    | false => rw [hd] at h; exact h.elim
    | true =>
      rw [hd] at h
      simp only [cond_true] at h
      have run : ∀ G, onS ops G o → opE P T true o G H (fun v => fputK G o.dst v fun G => opsE P T N ops l G H K) (fun _ v => fputK G o.dst v fun G => opsE P T N ops l G H K) (fun v H' => fputK G o.dst v fun G => opsE P T N ops l G H' K) →
          OpsS P N ops K (o :: l) G H := by
        intro G hg h
        rcases opE_sound hT h with ⟨s, v, hr, hk⟩ | ⟨s, v, hr, hk⟩ | ⟨_, ho⟩
        · rw [fputK_eq] at hk
          exact opsS_onS hg hd fun _ hK => hr.read.op (hK _ _ (ih hk))
        · rw [fputK_eq] at hk
          exact opsS_onS hg hd fun _ hK => hr.op (hK _ _ (ih hk))
        · refine opsS_onS hg hd fun _ hK => ho.mono fun v H' hk => ?_
          rw [fputK_eq] at hk
          exact hK _ _ (ih hk)
      rcases h.cases with ⟨hg, h⟩ | ⟨G, hFG, ⟨hg, h⟩ | ⟨hg, h⟩⟩
      · exact run F (.inl hg) h
      · exact (run G (.inr hg) h).of_TR hFG
      · rw [fputK_eq] at h
        exact (opsS_off hg hd (ih h)).of_TR hFG

/-! Regions that draw. -/

structure KeepP (P : Program) (ops : List Oper) (k : Nat) (act : List Ahead) (X : List Ahead → Prop) : Prop where
  ex : ∃ act2, X act2

/-- what makes a new block and touches none -/
def isPush : Op → Bool
  | .alloc _ => true
  | .box _ _ => true
  | _ => false

theorem opE_push {P : Program} {T : Nat → Option TI} {o : Oper} {F : Fr} {H : Heap} {Kp : Value → Prop} {Kr : Sem Next → Value → Prop} {Ke : Value → Heap → Prop} (ho : isPush o.op = true)
    (h : opE P T true o F H Kp Kr Ke) : opE P T true o F H Kp Kr (fun v H' => (∃ x, H' = x :: H) ∧ Ke v H') := by
  obtain ⟨dst, op, ty, p, af, g⟩ := o
  cases op <;> simp only [isPush, Bool.false_eq_true] at ho
  · simp only [opE] at h ⊢
    split at h
    · exact fun b => ⟨⟨_, rfl⟩, h b⟩
    · exact h
  · obtain ⟨v, hv, hk⟩ := withV.get h
    simp only [opE, withV, hv]
    exact fun b => ⟨⟨_, rfl⟩, hk b⟩

theorem SL.tail {A : AHeap} {x : Nat × AObj} {H : Heap} (h : SL A (x :: H)) : SL A H :=
  ⟨by have := h.1; simp only [keys, List.map_cons, List.nodup_cons] at this; exact this.2, fun y hy => h.2 y (List.mem_cons_of_mem _ hy)⟩

theorem qS.cons {P : Program} {a : Ahead} {H : Heap} (h : qS P a H) (x : Nat × AObj) : qS P a (x :: H) := fun A hA => h A hA.tail

theorem ActOk.keeps {P : Program} {ops : List Oper} {k : Nat} {H : Heap} : ∀ {act : List Ahead}, (∀ x ∈ act, qS P x H) → ActOk P ops k H act act := by
  intro act
  induction act with
  | nil => intro _; exact .nil
  | cons x act ih => intro h; exact .keep (h x List.mem_cons_self) (ih fun y hy => h y (List.mem_cons_of_mem _ hy))

theorem ActOk.holds {P : Program} {ops : List Oper} {k : Nat} {H : Heap} {l l' : List Ahead} (h : ActOk P ops k H l l') : ∀ x ∈ l', qS P x H := by
  induction h with
  | nil => intro x hx; cases hx
  | drop _ _ ih => exact ih
  | keep hq _ ih =>
    intro x hx
    rcases List.mem_cons.1 hx with rfl | hx
    · exact hq
    · exact ih x hx

def canonE (P : Program) (T : Nat → Option TI) (N : Nat) (ops : List Oper) : List (Nat × Bool) → List Ahead → Fr → Heap → (Fr → Heap → Prop) → Prop
  | [], _, F, H, K => K F H
  | (i, true) :: π, act, F, H, K => match ops[i]? with
    | none => False
    | some o => bif dstOk N o.dst then
        guardE ops.toArray F o
          (fun F => opE P T false o F H (fun v => fputK F o.dst v fun G => canonE P T N ops π act G H K) (fun s v => fputK F o.dst v fun G => canonE P T N ops π ((i, s, v) :: act) G H K) (fun _ _ => False))
          (fun F => fputK F o.dst undef fun G => canonE P T N ops π act G H K)
      else False
  | (i, false) :: π, act, F, H, K => match ops[i]? with
    | none => False
    | some o => bif dstOk N o.dst then
        guardE ops.toArray F o
          (fun F => bif act.all (fun x => (taints ops x.1).getD i false) then
              opE P T true o F H (fun _ => False) (fun _ _ => False) (fun v H' => fputK F o.dst v fun G => canonE P T N ops π [] G H' K)
            else bif isPush o.op then opE P T true o F H (fun _ => False) (fun _ _ => False) (fun v H' => fputK F o.dst v fun G => canonE P T N ops π act G H' K)
            else KeepP P ops i act fun act2 => opE P T true o F H (fun _ => False) (fun _ _ => False) (fun v H' => ActOk P ops i H' act act2 ∧ fputK F o.dst v fun G => canonE P T N ops π act2 G H' K))
          (fun F => fputK F o.dst undef fun G => canonE P T N ops π act G H K)
      else False

theorem CanonS.of_TR {P : Program} {N : Nat} {ops : List Oper} {K : Fr → Heap → Prop} {π : List (Nat × Bool)} {act : List Ahead} {F G : Fr} {H : Heap} (hFG : ∀ t, TR F t → TR G t) (h : CanonS P N ops K π act G H) : CanonS P N ops K π act F H :=
  fun act' A t ha hs hF hH => h act' A t ha hs (hFG t hF) hH

theorem ActOk.drops {P : Program} {ops : List Oper} {k : Nat} {H : Heap} : ∀ {act : List Ahead}, act.all (fun x => (taints ops x.1).getD k false) = true → ActOk P ops k H act [] := by
  intro act
  induction act with
  | nil => intro _; exact .nil
  | cons x act ih =>
    intro h
    simp only [List.all_cons, Bool.and_eq_true] at h
    exact .drop h.1 (ih h.2)

theorem canonE_sound {P : Program} {T : Nat → Option TI} (hT : TabOk P T) {N : Nat} {ops : List Oper} : ∀ (π : List (Nat × Bool)) {act : List Ahead} {F : Fr} {H : Heap} {K : Fr → Heap → Prop}, (∀ x ∈ act, qS P x H) → canonE P T N ops π act F H K → CanonS P N ops K π act F H := by
  intro π
  induction π with
  | nil => intro act F H K _ h; exact canonS_nil h
  | cons x π ih =>
    obtain ⟨i, q⟩ := x
    intro act F H K hq h
    cases q with
    | true =>
      simp only [canonE] at h
      cases ho : ops[i]? with
      | none => rw [ho] at h; exact h.elim
      | some o =>
        rw [ho] at h
        simp only at h
        cases hd : dstOk N o.dst with
        | false => rw [hd] at h; exact h.elim
        | true =>
          rw [hd] at h
          simp only [cond_true] at h
          have run : ∀ G, onS ops.toArray G o → opE P T false o G H (fun v => fputK G o.dst v fun G => canonE P T N ops π act G H K) (fun s v => fputK G o.dst v fun G => canonE P T N ops π ((i, s, v) :: act) G H K) (fun _ _ => False) →
              CanonS P N ops K ((i, true) :: π) act G H := by
            intro G hg h
            rcases opE_sound hT h with ⟨s, v, hr, hk⟩ | ⟨s, v, hr, hk⟩ | ⟨he, _⟩
            · rw [fputK_eq] at hk; exact canonS_pure ho hg hd hr (ih hq hk)
            · rw [fputK_eq] at hk; exact canonS_read ho hg hd hr (ih (fun x hx => by
                rcases List.mem_cons.1 hx with rfl | hx
                · exact fun A hA => hr.2 A hA
                · exact hq x hx) hk)
            · cases he
          rcases h.cases with ⟨hg, h⟩ | ⟨G, hFG, ⟨hg, h⟩ | ⟨hg, h⟩⟩
          · exact run F (.inl hg) h
          · exact (run G (.inr hg) h).of_TR hFG
          · rw [fputK_eq] at h
            exact (canonS_off (q := true) (act2 := act) ho hg hd (.inl rfl) (fun _ => rfl) (ih hq h)).of_TR hFG
    | false =>
      simp only [canonE] at h
      cases ho : ops[i]? with
      | none => rw [ho] at h; exact h.elim
      | some o =>
        rw [ho] at h
        simp only at h
        cases hd : dstOk N o.dst with
        | false => rw [hd] at h; exact h.elim
        | true =>
          rw [hd] at h
          simp only [cond_true] at h
          have run : ∀ G, onS ops.toArray G o → (bif act.all (fun x => (taints ops x.1).getD i false) then
              opE P T true o G H (fun _ => False) (fun _ _ => False) (fun v H' => fputK G o.dst v fun G => canonE P T N ops π [] G H' K)
            else bif isPush o.op then opE P T true o G H (fun _ => False) (fun _ _ => False) (fun v H' => fputK G o.dst v fun G => canonE P T N ops π act G H' K)
            else KeepP P ops i act fun act2 => opE P T true o G H (fun _ => False) (fun _ _ => False) (fun v H' => ActOk P ops i H' act act2 ∧ fputK G o.dst v fun G => canonE P T N ops π act2 G H' K)) →
              CanonS P N ops K ((i, false) :: π) act G H := by
            intro G hg h
            cases hb : act.all (fun x => (taints ops x.1).getD i false) with
            | true =>
              rw [hb] at h
              simp only [cond_true] at h
              rcases opE_sound hT h with ⟨s, v, hr, hk⟩ | ⟨s, v, hr, hk⟩ | ⟨_, hop⟩
              · exact hk.elim
              · exact hk.elim
              · refine canonS_op (act2 := []) ho hg hd fun K' hK' => hop.mono fun v H' hk => ?_
                rw [fputK_eq] at hk
                exact hK' _ _ (.drops hb) (ih (fun x hx => by simp at hx) hk)
            | false =>
              rw [hb] at h
              simp only [cond_false] at h
              cases hp : isPush o.op with
              | true =>
                rw [hp] at h
                simp only [cond_true] at h
                rcases opE_sound hT (opE_push hp h) with ⟨s, v, hr, hk⟩ | ⟨s, v, hr, hk⟩ | ⟨_, hop⟩
                · exact hk.elim
                · exact hk.elim
                · refine canonS_op (act2 := act) ho hg hd fun K' hK' => hop.mono fun v H' hk => ?_
                  obtain ⟨⟨x, rfl⟩, hk⟩ := hk
                  rw [fputK_eq] at hk
                  have hq' : ∀ y ∈ act, qS P y (x :: H) := fun y hy => (hq y hy).cons x
                  exact hK' _ _ (.keeps hq') (ih hq' hk)
              | false =>
              rw [hp] at h
              simp only [cond_false] at h
              obtain ⟨act2, h⟩ := h.ex
              rcases opE_sound hT h with ⟨s, v, hr, hk⟩ | ⟨s, v, hr, hk⟩ | ⟨_, hop⟩
              · exact hk.elim
              · exact hk.elim
              · refine canonS_op (act2 := act2) ho hg hd fun K' hK' => hop.mono fun v H' hk => ?_
                obtain ⟨hk1, hk⟩ := hk
                rw [fputK_eq] at hk
                exact hK' _ _ hk1 (ih hk1.holds hk)
          rcases h.cases with ⟨hg, h⟩ | ⟨G, hFG, ⟨hg, h⟩ | ⟨hg, h⟩⟩
          · exact run F (.inl hg) h
          · exact (run G (.inr hg) h).of_TR hFG
          · rw [fputK_eq] at h
            exact (canonS_off (q := false) (act2 := act) ho hg hd (.inr fun x hx => .inl hx) (fun h => by cases h) (ih hq h)).of_TR hFG

/-! Pieces of code. -/

structure DrawP (P : Program) (T : Nat → Option TI) (N : Nat) (ops : List Oper) (F : Fr) (H : Heap) (K : Fr → Heap → Prop) : Prop where
  ex : ∃ π, canonTop ops π = true ∧ canonE P T N ops π [] F H K

/-- some slots, in an order -/
def fselK (F : Fr) : List Nat → (Fr → Prop) → Prop
  | [], K => K []
  | j :: l, K => match fget F j with
    | some v => fselK F l fun G => K ((j, v) :: G)
    | none => False

theorem fselK.get {F : Fr} : ∀ {l : List Nat} {K : Fr → Prop}, fselK F l K → ∃ G, (∀ t, TR F t → TR G t) ∧ K G := by
  intro l
  induction l with
  | nil => intro K h; exact ⟨[], fun t _ i v hm => by simp at hm, h⟩
  | cons j l ih =>
    intro K h
    simp only [fselK] at h
    split at h
    · rename_i v hv
      obtain ⟨G, h1, h2⟩ := ih h
      refine ⟨_, fun t ht i u hm => ?_, h2⟩
      rcases List.mem_cons.1 hm with hm | hm
      · simp only [Prod.mk.injEq] at hm
        obtain ⟨rfl, rfl⟩ := hm
        exact ht _ _ (fget_mem hv)
      · exact h1 t ht _ _ hm
    · exact h.elim

/-- blocks forgotten, or put in another order -/
inductive SubH : Heap → Heap → Prop
  | nil {H} : SubH H []
  | cons {H x G H'} : Take H x G → SubH G H' → SubH H (x :: H')

theorem SubH.keys {H G : Heap} (h : SubH H G) : ∃ R, H.Perm (G ++ R) := by
  induction h with
  | nil => rename_i H; exact ⟨H, .refl _⟩
  | cons ht _ ih => obtain ⟨R, hR⟩ := ih; exact ⟨R, ht.perm.trans (hR.cons _)⟩

theorem SubH.sl {A : AHeap} {H G : Heap} (h : SubH H G) (hs : SL A H) : SL A G ∧ KF A H A G := by
  obtain ⟨R, hR⟩ := h.keys
  have := hs.perm hR
  refine ⟨this.left, .refl _, Nat.le_refl _, fun b hb => .inl ?_, fun _ _ _ => rfl⟩
  have hm := (hR.map (·.1)).mem_iff (a := b)
  simp only [List.map_append, List.mem_append] at hm
  exact hm.2 (.inl hb)

structure DropP (H : Heap) (K : Heap → Prop) : Prop where
  ex : ∃ H', SubH H H' ∧ K H'

/-- behind a fork: each way by itself, or all by what they leave in common -/
inductive JoinP (X : (Fr → Heap → Prop) → Prop) (K : Fr → Heap → Prop) : Prop
  | dup (h : X K) : JoinP X K
  | cut (l : List Nat) (R : Fr → Heap → Prop) (h : X (fun F H => fselK F l fun G => DropP H fun H' => R G H')) (hk : ∀ F H, R F H → K F H) : JoinP X K

theorem CodeS.sub {P : Program} {N : Nat} {c : Code} {F : Fr} {H G : Heap} {Q : Exit → Fr → Heap → Prop} (hs : SubH H G) (h : CodeS P N c F G Q) : CodeS P N c F H Q := by
  intro A t hst hF hH
  obtain ⟨k1, k2⟩ := hs.sl hH
  exact (h A t hst hF k1).mono fun _ _ _ hl => liftS_trans k2 hl

/-- a loop, from its body's begin on -/
def LoopW (P : Program) (c : Code) (Q : Exit → Act → World → Prop) (a : Act) (w : World) : Prop :=
  ∀ (b : Frame) (k : List Item) (cs : List Frame), ∃ e a' w', Q e a' w' ∧ Arrives P (lone (b.at a (.code c :: .inLoop c :: k)) cs w) b k cs e a' w'

theorem LoopW.wp {P : Program} {c : Code} {Q : Exit → Act → World → Prop} {a : Act} {w : World} (h : LoopW P c Q a w) : (Code.loop c).wp P Q a w := by
  intro b k cs
  obtain ⟨e, a', w', hq, harr⟩ := h b k cs
  exact ⟨e, a', w', hq, .of_steps (.one step_loop) harr⟩

theorem LoopW.unroll {P : Program} {c : Code} {Q : Exit → Act → World → Prop} {a : Act} {w : World} (h : c.wp P (Exit.then (fun a' w' => LoopW P c Q a' w') Q) a w) : LoopW P c Q a w := by
  intro b k cs
  obtain ⟨e, a₁, w₁, hq, harr⟩ := h b (.inLoop c :: k) cs
  cases e with
  | normal =>
    obtain ⟨e₂, a₂, w₂, hq₂, harr₂⟩ := hq b k cs
    exact ⟨e₂, a₂, w₂, hq₂, .of_steps (Steps.trans harr (.one step_inLoop)) harr₂⟩
  | exit id => exact ⟨_, a₁, w₁, hq, .pass (x := .inLoop c) rfl (fun _ _ => .inl (by simp)) harr⟩
  | goto l => exact ⟨_, a₁, w₁, hq, .pass (x := .inLoop c) rfl (fun _ _ => .inl (by simp)) harr⟩
  | ret => exact ⟨_, a₁, w₁, hq, .pass (x := .inLoop c) rfl (fun _ _ => .inl (by simp)) harr⟩
  | panic ch => exact ⟨_, a₁, w₁, hq, .pass (x := .inLoop c) rfl (fun _ _ => .inl (by simp)) harr⟩
  | outgrown => exact ⟨_, a₁, w₁, hq, .pass (x := .inLoop c) rfl (fun _ _ => .inl (by simp)) harr⟩

theorem LoopW.mono {P : Program} {c : Code} {Q R : Exit → Act → World → Prop} {a : Act} {w : World} (h : LoopW P c Q a w) (hr : ∀ e a w, Q e a w → R e a w) : LoopW P c R a w := by
  intro b k cs
  obtain ⟨e, a', w', hq, harr⟩ := h b k cs
  exact ⟨e, a', w', hr _ _ _ hq, harr⟩

def LoopS (P : Program) (N : Nat) (c : Code) (F : Fr) (H : Heap) (Q : Exit → Fr → Heap → Prop) : Prop :=
  ∀ A t, t.size = N → TR F t → SL A H → ∀ w, HR A w → LoopW P c (lift A (liftS N A H Q)) ⟨t, []⟩ w

theorem LoopS.unroll {P : Program} {N : Nat} {c : Code} {F : Fr} {H : Heap} {Q : Exit → Fr → Heap → Prop} (h : CodeS P N c F H (thenS (fun F' H' => LoopS P N c F' H' Q) Q)) : LoopS P N c F H Q := by
  intro A t hs hF hH w hw
  refine LoopW.unroll (Go.wp_mono (h A t hs hF hH w hw) fun e a w' ⟨hd, A', hA, hsm, hq⟩ => ?_)
  obtain ⟨hs', F', H', h1, h2, h3, h4⟩ := hq
  cases e with
  | normal =>
    obtain ⟨tm, df⟩ := a
    simp only at hd; subst hd
    refine (h4 A' tm hs' h1 h2 w' hA).mono fun e a w hl => ?_
    have := lift_trans hsm hl
    obtain ⟨g1, B, g2, g3, g4⟩ := this
    exact ⟨g1, B, g2, g3, liftS_trans h3 g4⟩
  | _ => exact ⟨hd, A', hA, hsm, hs', F', H', h1, h2, h3, h4⟩

structure LoopP (P : Program) (T : Nat → Option TI) (N : Nat) (c : Code) (F : Fr) (H : Heap) (Q : Exit → Fr → Heap → Prop) : Prop where
  h : LoopS P N c F H Q

structure OtherC (P : Program) (N : Nat) (c : Code) (F : Fr) (H : Heap) (Q : Exit → Fr → Heap → Prop) : Prop where
  h : CodeS P N c F H Q

def isCond : Code → Bool
  | .cond _ _ _ => true
  | .block _ _ => true
  | .seq _ b => isCond b
  | _ => false

def codeE (P : Program) (T : Nat → Option TI) (N : Nat) : Code → (Exit → Fr → Heap → Prop) → Fr → Heap → Prop
  | .skip, Q, F, H => Q .normal F H
  | .label _, Q, F, H => Q .normal F H
  | .exit id, Q, F, H => Q (.exit id) F H
  | .ret, Q, F, H => Q .ret F H
  | .region _ ops false, Q, F, H => opsE P T N ops ops.toList F H (Q .normal)
  | .region _ ops true, Q, F, H => DrawP P T N ops.toList F H (Q .normal)
  | .seq a b, Q, F, H => bif isCond a then JoinP (fun R => codeE P T N a (thenS R Q) F H) (fun F H => codeE P T N b Q F H)
      else codeE P T N a (thenS (fun F H => codeE P T N b Q F H) Q) F H
  | .cond c a b, Q, F, H => withV F c fun v => match v with
    | .bool x => Branch x (codeE P T N a Q F H) (codeE P T N b Q F H)
    | _ => False
  | .block id a, Q, F, H => codeE P T N a (inBlockS id Q) F H
  | .loop a, Q, F, H => LoopP P T N a F H Q
  | c, Q, F, H => OtherC P N c F H Q

theorem CodeS.of_TR {P : Program} {N : Nat} {c : Code} {F G : Fr} {H : Heap} {Q : Exit → Fr → Heap → Prop} (hFG : ∀ t, TR F t → TR G t) (h : CodeS P N c G H Q) : CodeS P N c F H Q :=
  fun A t hs hF hH => h A t hs (hFG t hF) hH

theorem codeE_sound {P : Program} {T : Nat → Option TI} (hT : TabOk P T) (hm : P.follows .mixedOrders = true) {N : Nat} : ∀ (c : Code) {Q : Exit → Fr → Heap → Prop} {F : Fr} {H : Heap}, codeE P T N c Q F H → CodeS P N c F H Q := by
  intro c
  induction c with
  | skip => intro Q F H h; exact codeS_skip h
  | label l => intro Q F H h; exact codeS_label h
  | exit id => intro Q F H h; exact codeS_exit h
  | ret => intro Q F H h; exact codeS_ret h
  | region id ops draw =>
    intro Q F H h
    obtain ⟨l⟩ := ops
    cases draw with
    | false => exact codeS_region (opsE_sound hT _ h)
    | true =>
      obtain ⟨π, h1, h2⟩ := DrawP.ex h
      exact codeS_draw π hm h1 (canonE_sound hT _ (fun x hx => by simp at hx) h2)
  | seq a b iha ihb =>
    intro Q F H h
    simp only [codeE] at h
    refine codeS_seq fun K hK => ?_
    cases hb : isCond a with
    | true =>
      rw [hb] at h
      cases h with
      | dup h1 =>
        refine (iha h1).mono fun e F' H' hq => ?_
        cases e with
        | normal => exact hK _ _ (ihb hq)
        | _ => exact hq
      | cut l R h1 h2 =>
        refine (iha h1).mono fun e F' H' hq => ?_
        cases e with
        | normal =>
          obtain ⟨G, hG, H'', hH, hR⟩ := fselK.get hq
          exact hK _ _ ((ihb (h2 _ _ hR)).of_TR hG |>.sub hH)
        | _ => exact hq
    | false =>
      rw [hb] at h
      refine (iha h).mono fun e F' H' hq => ?_
      cases e with
      | normal => exact hK _ _ (ihb hq)
      | _ => exact hq
  | cond c a b iha ihb =>
    intro Q F H h
    obtain ⟨v, hv, h⟩ := withV.get h
    split at h
    · exact codeS_cond hv (fun hx => iha (h.t hx)) (fun hx => ihb (h.f hx))
    · exact h.elim
  | block id a iha => intro Q F H h; exact codeS_block (iha h)
  | loop a iha => intro Q F H h; exact fun A t hs hF hH w hw => ((LoopP.h h) A t hs hF hH w hw).wp
  | _ => intro Q F H h; exact h.h

theorem LoopP.unroll {P : Program} {T : Nat → Option TI} (hT : TabOk P T) (hm : P.follows .mixedOrders = true) {N : Nat} {c : Code} {Q : Exit → Fr → Heap → Prop} {F : Fr} {H : Heap}
    (h : codeE P T N c (thenS (fun F' H' => LoopP P T N c F' H' Q) Q) F H) : LoopP P T N c F H Q :=
  ⟨LoopS.unroll ((codeE_sound hT hm c h).mono fun e F' H' hq => by
    cases e with
    | normal => exact LoopP.h hq
    | _ => exact hq)⟩

theorem LoopS.of_TR {P : Program} {N : Nat} {c : Code} {F G : Fr} {H : Heap} {Q : Exit → Fr → Heap → Prop} (hFG : ∀ t, TR F t → TR G t) (h : LoopS P N c G H Q) : LoopS P N c F H Q :=
  fun A t hs hF hH => h A t hs (hFG t hF) hH

/-- a loop, by the slots that are kept, what holds of them at each round's head, and a measure -/
theorem LoopP.inv {P : Program} {T : Nat → Option TI} (hT : TabOk P T) (hm : P.follows .mixedOrders = true) {N : Nat} {c : Code} {Q : Exit → Fr → Heap → Prop} {F : Fr} {H : Heap}
    (l : List Nat) (I : Nat → Fr → Heap → Prop) (n : Nat) (h0 : fselK F l (fun G => I n G H))
    (hr : ∀ n F H, I n F H → codeE P T N c (thenS (fun F' H' => fselK F' l fun G => ∃ m, m < n ∧ I m G H') Q) F H) : LoopP P T N c F H Q := by
  have key : ∀ n F H, I n F H → LoopS P N c F H Q := by
    intro n
    induction n using Nat.strongRecOn with
    | _ n ih =>
      intro F H hI
      refine LoopS.unroll ((codeE_sound hT hm c (hr n F H hI)).mono fun e F' H' hq => ?_)
      cases e with
      | normal =>
        obtain ⟨G, h1, m, hlt, h2⟩ := fselK.get hq
        exact (ih m hlt G H' h2).of_TR h1
      | _ => exact hq
  obtain ⟨G, hFG, h0⟩ := h0.get
  exact ⟨(key n G H h0).of_TR hFG⟩

theorem LoopS.sub {P : Program} {N : Nat} {c : Code} {F : Fr} {H G : Heap} {Q : Exit → Fr → Heap → Prop} (hs : SubH H G) (h : LoopS P N c F G Q) : LoopS P N c F H Q := by
  intro A t hst hF hH w hw
  obtain ⟨k1, k2⟩ := hs.sl hH
  exact (h A t hst hF k1 w hw).mono fun e a w ⟨h1, A', h2, h3, h4⟩ => ⟨h1, A', h2, h3, liftS_trans k2 h4⟩

/-- the same, what is made in a round being forgotten -/
theorem LoopP.invD {P : Program} {T : Nat → Option TI} (hT : TabOk P T) (hm : P.follows .mixedOrders = true) {N : Nat} {c : Code} {Q : Exit → Fr → Heap → Prop} {F : Fr} {H : Heap}
    (l : List Nat) (I : Nat → Fr → Heap → Prop) (n : Nat) (h0 : fselK F l (fun G => DropP H fun H' => I n G H'))
    (hr : ∀ n F H, I n F H → codeE P T N c (thenS (fun F' H' => fselK F' l fun G => DropP H' fun H'' => ∃ m, m < n ∧ I m G H'') Q) F H) : LoopP P T N c F H Q := by
  have key : ∀ n F H, I n F H → LoopS P N c F H Q := by
    intro n
    induction n using Nat.strongRecOn with
    | _ n ih =>
      intro F H hI
      refine LoopS.unroll ((codeE_sound hT hm c (hr n F H hI)).mono fun e F' H' hq => ?_)
      cases e with
      | normal =>
        obtain ⟨G, h1, H'', hs, m, hlt, h2⟩ := fselK.get hq
        exact ((ih m hlt G H'' h2).of_TR h1).sub hs
      | _ => exact hq
  obtain ⟨G, hFG, H', hs, h0⟩ := h0.get
  exact ⟨((key n G H' h0).of_TR hFG).sub hs⟩

/-! A function's body. -/

def resK (T : Nat → Option TI) (F : Fr) (H : Heap) : List ResultVar → (List Value → Prop) → Prop
  | [], K => K []
  | .tmp x :: l, K => withV F (.tmp x) fun v => resK T F H l fun vs => K (v :: vs)
  | .cell a t :: l, K => withV F (.tmp a) fun v => match v, T t with
    | .pointer (some ⟨b, o, none⟩), some ti => match ti.agg with
      | false => LoadP H b o fun v => resK T F H l fun vs => K (v :: vs)
      | true => LoadsP H b o ti.size fun v => resK T F H l fun vs => K (v :: vs)
    | _, _ => False

def tupV : List Value → Value
  | [v] => v
  | vs => .tuple vs.toArray

def tupK : List Value → (Value → Prop) → Prop
  | [v], K => K v
  | vs, K => K (.tuple vs.toArray)

theorem tupK_eq (vs : List Value) (K : Value → Prop) : tupK vs K = K (tupV vs) := by
  match vs with
  | [] => rfl
  | [_] => rfl
  | _ :: _ :: _ => rfl

def resE (T : Nat → Option TI) (fn : Func) (F : Fr) (H : Heap) (Q : Value → Heap → Prop) : Prop := resK T F H fn.results.toList fun vs => tupK vs fun v => Q v H

def doneE (T : Nat → Option TI) (fn : Func) (Q : Value → Heap → Prop) : Exit → Fr → Heap → Prop
  | .normal, F, H => resE T fn F H Q
  | .ret, F, H => resE T fn F H Q
  | _, _, _ => False

def res1 (t : Array Value) : ResultVar → Sem Value
  | .tmp x => pure (t.getD x undef)
  | .cell a ty => do loadVar ty (← asAddr (t.getD a undef))

theorem resK.get {P : Program} {T : Nat → Option TI} (hT : TabOk P T) {F : Fr} {H : Heap} : ∀ {l : List ResultVar} {K : List Value → Prop}, resK T F H l K →
    ∃ vs, (∀ A t w, TR F t → SL A H → HR A w → (l.mapM (m := Sem) (res1 t)).run P w = .ok vs w) ∧ K vs := by
  intro l
  induction l with
  | nil => intro K h; exact ⟨[], fun _ _ _ _ _ _ => rfl, h⟩
  | cons r l ih =>
    intro K h
    have fin : ∀ (v : Value), (∀ A t w, TR F t → SL A H → HR A w → (res1 t r).run P w = .ok v w) → (resK T F H l fun vs => K (v :: vs)) →
        ∃ vs, (∀ A t w, TR F t → SL A H → HR A w → ((r :: l).mapM (m := Sem) (res1 t)).run P w = .ok vs w) ∧ K vs := by
      intro v hv h
      obtain ⟨vs, h1, h2⟩ := ih h
      refine ⟨v :: vs, fun A t w hF hH hw => ?_, h2⟩
      have := hv A t w hF hH hw
      have h3 := h1 A t w hF hH hw
      simp [List.mapM_cons, this, h3]
    cases r with
    | tmp x =>
      obtain ⟨v, hv, h⟩ := withV.get h
      exact fin v (fun A t w hF _ _ => by simp only [res1]; rw [hF.getD hv]; rfl) h
    | cell a ty =>
      obtain ⟨v, hv, h⟩ := withV.get h
      split at h
      · rename_i b o ti hti
        have hs := hT.spec hti
        cases hag : ti.agg with
        | false =>
          rw [hag] at h
          obtain ⟨vs, op, wr, i, u, ha, hu, hk⟩ := h.ex
          refine fin u (fun A t w hF hH hw => ?_) hk
          have hc := hH.cell hw ha hu
          have hagg := isAgg_eq (w := w) hs.und
          rw [← hs.agg, hag] at hagg
          simp only [res1, hF.getD hv]
          simp [asAddr, loadVar, hagg, hc]
        | true =>
          rw [hag] at h
          obtain ⟨vs, op, wr, i, cs, ha, hu, hl, hk⟩ := h.ex
          refine fin _ (fun A t w hF hH hw => ?_) hk
          have hagg := isAgg_eq (w := w) hs.und
          rw [← hs.agg, hag] at hagg
          obtain ⟨inf, z, hi, hsz, _, _⟩ := hs.info
          have hc : (loadCells ⟨b, o, none⟩ ti.size).run P w = .ok cs.toArray w := by
            rw [← hl]
            refine run_loadCells_list w ⟨b, o, none⟩ cs fun j v hj => ?_
            rw [addr_add]
            refine hH.cell hw ha ?_
            have hjl : j < cs.length := (List.getElem?_eq_some_iff.1 hj).1
            rw [← hu, List.getElem?_take_of_lt (by omega), List.getElem?_drop] at hj
            exact hj
          simp only [res1, hF.getD hv]
          simp [asAddr, loadVar, hagg, sizeOf, typeInfo, hi, hsz, hc]
      · exact h.elim

theorem resE_sound {P : Program} {T : Nat → Option TI} (hT : TabOk P T) {fn : Func} {F : Fr} {H : Heap} {Q : Value → Heap → Prop} (h : resE T fn F H Q) : ResS P fn F H (fun v => Q v H) := by
  intro A t hF hH
  obtain ⟨vs, h1, h2⟩ := resK.get hT h
  rw [tupK_eq] at h2
  refine ⟨tupV vs, fun w hw => ?_, h2⟩
  have hm := h1 A t w hF hH hw
  have hf : results fn t = (do
      let vs ← fn.results.mapM (res1 t)
      pure (if h : vs.size = 1 then vs[0] else .tuple vs)) := by
    unfold results
    congr 1
  have hm2 : (fn.results.mapM (m := Sem) (res1 t)).run P w = .ok vs.toArray w := by
    rw [← Array.toArray_toList (xs := fn.results), List.mapM_toArray, Sem.run_map, hm]
    rfl
  rw [hf, Sem.run_bind, hm2]
  simp only [Result.andThen]
  match vs with
  | [] => rfl
  | [v] => rfl
  | v :: u :: vs => simp [tupV]

theorem callE {P : Program} {T : Nat → Option TI} (hT : TabOk P T) (hm : P.follows .mixedOrders = true) {f : FuncId} {fn : Func} {c : Code} {args : List Value} {H : Heap} {Q : Value → Heap → Prop} {N : Nat}
    (hf : P.funcs[f]? = some fn) (hb : fn.body = some c) (hn : fn.ntmps = N) (hl : Nat.ble args.length N = true) (h : codeE P T N c (doneE T fn Q) (fargs args 0) H) : CallS P f args.toArray H Q := by
  refine callS_body hf hb hn hl ((codeE_sound hT hm _ h).mono fun e F' H' hq => ?_)
  cases e with
  | normal => exact resE_sound hT hq
  | ret => exact resE_sound hT hq
  | _ => exact hq.elim

end Go.Am
