/-
A fast form of the evaluator; functions taken by what is known of them.
-/
import Derived.Test.YtlogogdfmcdpfaaGreatDoorWi
import Derived.Test.YtlogogdfmcdpfaaGreatDoorWc
import Derived.Lib.Overlaps
import Derived.Lib.Join
import Derived.Below
set_option linter.all false
namespace Go.Am
open Go

noncomputable section

/-! Trees, lists. -/

def getF {α : Type} (t : BT α) : Nat → Option α :=
  @BT.rec α (fun _ => Nat → Option α) (fun _ => none) (fun v _ _ ihl ihr i => @Bool.rec (fun _ => Option α) (@Bool.rec (fun _ => Option α) (ihr (Nat.sub (Nat.div i 2) 1)) (ihl (Nat.div i 2)) (Nat.beq (Nat.mod i 2) 1)) v (Nat.beq i 0)) t

theorem getF_eq {α : Type} : ∀ (t : BT α) (i : Nat), getF t i = t.get i := by
  intro t
  induction t with
  | leaf => intro i; rfl
  | node v l r ihl ihr =>
    intro i
    show @Bool.rec (fun _ => Option α) (@Bool.rec (fun _ => Option α) (getF r (i / 2 - 1)) (getF l (i / 2)) (Nat.beq (i % 2) 1)) v (Nat.beq i 0) = _
    rw [ihl, ihr]
    simp only [BT.get]
    cases Nat.beq i 0 <;> cases Nat.beq (i % 2) 1 <;> rfl

def pk0 {α β : Type} (v : Option α) (r : BT α) (k : BT α → β) (t : BT α) : β := k (.node v t r)
def pk1 {α β : Type} (v : Option α) (l : BT α) (k : BT α → β) (t : BT α) : β := k (.node v l t)

def putLeafF {α β : Type} (ih : BT α → Nat → Option α → (BT α → β) → β) (i : Nat) (x : Option α) (k : BT α → β) : β :=
  @Bool.rec (fun _ => β) (@Bool.rec (fun _ => β) (ih .leaf (Nat.sub (Nat.div i 2) 1) x (pk1 none .leaf k)) (ih .leaf (Nat.div i 2) x (pk0 none .leaf k)) (Nat.beq (Nat.mod i 2) 1)) (k (.node x .leaf .leaf)) (Nat.beq i 0)
def putNodeF {α β : Type} (ih : BT α → Nat → Option α → (BT α → β) → β) (v : Option α) (l r : BT α) (i : Nat) (x : Option α) (k : BT α → β) : β :=
  @Bool.rec (fun _ => β) (@Bool.rec (fun _ => β) (ih r (Nat.sub (Nat.div i 2) 1) x (pk1 v l k)) (ih l (Nat.div i 2) x (pk0 v r k)) (Nat.beq (Nat.mod i 2) 1)) (k (.node x l r)) (Nat.beq i 0)
def putF {α β : Type} (f : Nat) : BT α → Nat → Option α → (BT α → β) → β :=
  @Nat.rec (fun _ => BT α → Nat → Option α → (BT α → β) → β) (fun _ _ _ k => k .leaf) (fun _ ih t => @BT.rec α (fun _ => Nat → Option α → (BT α → β) → β) (putLeafF ih) (fun v l r _ _ => putNodeF ih v l r) t) f

theorem putF_eq {α β : Type} : ∀ (f : Nat) (t : BT α) (i : Nat) (x : Option α) (k : BT α → β), putF f t i x k = k (BT.put f t i x) := by
  intro f
  induction f with
  | zero => intros; rfl
  | succ f ih =>
    intro t i x k
    cases t with
    | leaf =>
      show putLeafF (putF f) i x k = _
      unfold putLeafF
      simp only [BT.put]
      rw [ih, ih]
      change @Bool.rec (fun _ => β) (@Bool.rec (fun _ => β) _ _ (Nat.beq (i % 2) 1)) _ (Nat.beq i 0) = _
      cases Nat.beq i 0 <;> cases Nat.beq (i % 2) 1 <;> rfl
    | node v l r =>
      show putNodeF (putF f) v l r i x k = _
      unfold putNodeF
      simp only [BT.put]
      rw [ih, ih]
      change @Bool.rec (fun _ => β) (@Bool.rec (fun _ => β) _ _ (Nat.beq (i % 2) 1)) _ (Nat.beq i 0) = _
      cases Nat.beq i 0 <;> cases Nat.beq (i % 2) 1 <;> rfl

def nthF (vs : List Value) : Nat → Option Value :=
  @List.rec Value (fun _ => Nat → Option Value) (fun _ => none) (fun v _ ih i => @Nat.rec (fun _ => Option Value) (some v) (fun j _ => ih j) i) vs

theorem nthF_eq : ∀ (vs : List Value) (i : Nat), nthF vs i = nth vs i := by
  intro vs
  induction vs with
  | nil => intro i; rfl
  | cons v vs ih => intro i; cases i with
    | zero => rfl
    | succ i => exact ih i

def splK {β : Type} : List Value → Nat → List Value → (List Value → β) → β :=
  fun vs => @List.rec Value (fun _ => Nat → List Value → (List Value → β) → β) (fun _ _ k => k [])
    (fun v vs ih n cs k => @List.rec Value (fun _ => β) (k (v :: vs)) (fun c cs' _ => @Nat.rec (fun _ => β) (ih 0 cs' fun l => k (c :: l)) (fun m _ => ih m cs fun l => k (v :: l)) n) cs) vs

theorem splK_eq {β : Type} : ∀ (vs : List Value) (n : Nat) (cs : List Value) (k : List Value → β), splK vs n cs k = k (splice vs n cs) := by
  intro vs
  induction vs with
  | nil => intro n cs k; cases cs <;> rfl
  | cons v vs ih =>
    intro n cs k
    cases cs with
    | nil => rfl
    | cons c cs =>
      cases n with
      | zero => exact ih 0 cs _
      | succ n => exact ih n (c :: cs) _

def putDF {β : Type} (d : Option Tmp) (F : BT Value) (v : Value) (k : BT Value → β) : β :=
  @Option.rec Nat (fun _ => β) (k F) (fun d => putF 32 F d (some v) k) d

theorem putDF_eq {β : Type} (d : Option Tmp) (F : BT Value) (v : Value) (k : BT Value → β) : putDF d F v k = k (fputD F d v) := by
  cases d with
  | none => rfl
  | some d => exact putF_eq 32 F d (some v) k

/-! Values made plain. -/

def fN {β : Type} (n : Nat) (k : Nat → β) : β := @Nat.rec (fun _ => β) (k 0) (fun m _ => k (Nat.succ m)) n
theorem fN_eq {β : Type} (n : Nat) (k : Nat → β) : fN n k = k n := by cases n <;> rfl
def fI {β : Type} (i : Int) (k : Int → β) : β := @Int.rec (fun _ => β) (fun n => fN n fun n => k (.ofNat n)) (fun n => fN n fun n => k (.negSucc n)) i
theorem fI_eq {β : Type} (i : Int) (k : Int → β) : fI i k = k i := by
  cases i with
  | ofNat n => exact fN_eq n fun n => k (.ofNat n)
  | negSucc n => exact fN_eq n fun n => k (.negSucc n)

/-! Operands. -/

def opF (x : Operand) : BT Value → Option Value :=
  @Operand.rec (fun _ => BT Value → Option Value) (fun i F => getF F i) (fun v _ => @Bool.rec (fun _ => Option Value) none (some v) (constB v)) (fun _ _ => none) (fun f _ => some (.func (.func f) #[] #[])) x

theorem opF_eq (x : Operand) (F : BT Value) : opF x F = opvX F x := by
  cases x with
  | tmp i => exact getF_eq F i
  | const v =>
    show @Bool.rec (fun _ => Option Value) none (some v) (constB v) = bif constB v then some v else none
    cases constB v <;> rfl
  | global g => rfl
  | func f => rfl

abbrev Kt := Value → BT XO → Nat → Bool
abbrev Hd := EP → Rec → Oper → BT Value → BT XO → Nat → Kt → Bool

def oB {α : Type} (k : α → Bool) (v : Option α) : Bool := @Option.rec α (fun _ => Bool) false k v
theorem oB_true {α : Type} {k : α → Bool} {v : Option α} (h : oB k v = true) : ∃ a, v = some a ∧ k a = true := by
  cases v with
  | none => cases h
  | some a => exact ⟨a, rfl, h⟩

def bB (b x : Bool) : Bool := @Bool.rec (fun _ => Bool) false x b
theorem bB_true {b x : Bool} (h : bB b x = true) : b = true ∧ x = true := by
  cases b with
  | false => cases h
  | true => exact ⟨rfl, h⟩

theorem opEv_pu {E : EP} {rec : Rec} {o : Oper} {F : BT Value} {H : BT XO} {n : Nat} {k : Kt} {v : Value} (hv : puOp E.T o F = some v) (h : k v H n = true) : opEv E rec o F H n k = true := by
  unfold opEv
  rw [hv]
  simp only [forceV_eq]
  exact h

/-- a pointer into a block of cells -/
def oP (k : Nat → Nat → Bool) (v : Value) : Bool := match v with
  | .pointer (some ⟨b, ofs, none⟩) => k b ofs
  | _ => false
theorem oP_true {k : Nat → Nat → Bool} {v : Value} (h : oP k v = true) : ∃ b o, v = .pointer (some ⟨b, o, none⟩) ∧ k b o = true := by
  unfold oP at h
  split at h
  · exact ⟨_, _, rfl, h⟩
  · cases h

def isStruct (d : TypeDesc) : Bool := match d with
  | .struct _ => true
  | _ => false
theorem isStruct_true {d : TypeDesc} (h : isStruct d = true) : ∃ fs, d = .struct fs := by
  unfold isStruct at h
  split at h
  · exact ⟨_, rfl⟩
  · cases h

def hMove (x : Operand) : Hd := fun _ _ _ F H n k => oB (fun v => k v H n) (opF x F)

/-- what only computes: its value -/
def hPu : Hd := fun E rec o F H n k => @Option.rec Value (fun _ => Bool) (opEv E rec o F H n k) (fun v => forceV v fun v => k v H n) (puOp E.T o F)

theorem hPu_ok {E : EP} {rec : Rec} {o : Oper} {F : BT Value} {H : BT XO} {n : Nat} {k : Kt} (h : hPu E rec o F H n k = true) : opEv E rec o F H n k = true := by
  unfold hPu at h
  cases hp : puOp E.T o F with
  | none => rw [hp] at h; exact h
  | some v => rw [hp] at h; simp only [forceV_eq] at h; exact opEv_pu hp h

def hNil (x : Operand) : Hd := fun _ _ _ F H n k => oB (oP fun b ofs => k (.pointer (some ⟨b, ofs, none⟩)) H n) (opF x F)

def hBin (op : BinOp) (t : TypeId) (x y : Operand) : Hd := fun E rec o F H n k =>
  oB (fun a => oB (fun b => @Option.rec Value (fun _ => Bool) (opEv E rec o F H n k) (fun v => forceV v fun v => k v H n) (binX E.T op t a b)) (opF y F)) (opF x F)

def kFld (b ofs : Nat) (H : BT XO) (n : Nat) (k : Kt) (f : Nat × Nat × Bool) : Bool := match f with
  | (off, _ + 1, _) => fN (ofs + off) fun o2 => k (.pointer (some ⟨b, o2, none⟩)) H n
  | _ => false
def hFieldAddr (t : TypeId) (x : Operand) (fl : Nat) : Hd := fun E _ _ F H n k => oB (oP fun b ofs => oB (fun ti => bB (isStruct ti.desc) (oB (kFld b ofs H n k) (ti.flds[fl]?))) (E.T t)) (opF x F)

def kLoad (ti : TI) (ofs : Nat) (H : BT XO) (n : Nat) (k : Kt) (x : XO) : Bool := match x with
  | .cells vs _ _ _ _ _ => @Bool.rec (fun _ => Bool) (oB (fun v => forceV v fun v => k v H n) (nthF vs ofs))
        (bB (Nat.ble (ofs + ti.size) vs.length) (k (.agg (sub vs ofs ti.size).toArray) H n)) ti.agg
  | _ => false
def hLoad (t : TypeId) (x : Operand) : Hd := fun E _ _ F H n k => oB (oP fun b ofs => oB (fun ti => oB (kLoad ti ofs H n k) (getF H b)) (E.T t)) (opF x F)

def kStore (ti : TI) (cs : List Value) (b ofs : Nat) (H : BT XO) (n : Nat) (k : Kt) (x : XO) : Bool := match x with
  | .cells vs es lo hi op true => oB (fun vs => splK vs ofs cs fun vs => putF 32 H b (some (.cells vs es lo hi op true)) fun H => k undef H n) (roomX vs es lo op (ofs + cs.length))
  | _ => false
def hStore (t : TypeId) (x y : Operand) : Hd := fun E _ _ F H n k => oB (oP fun b ofs => oB (fun u => oB (fun ti =>
  bB (Nat.beq (valCells u).length ti.size && (valCells u).all (·.oneCell')) (oB (kStore ti (valCells u) b ofs H n k) (getF H b))) (E.T t)) (opF y F)) (opF x F)

def hAlloc (t : TypeId) : Hd := fun E _ _ _ H n k => oB (fun ti => bB (ti.zero.all flatB) (putF 32 H n (some (.cells ti.zero 1 0 0 false true)) fun H => fN (n + 1) fun m => k (.pointer (some ⟨n, 0, none⟩)) H m)) (E.T t)

def kPick (a b : Option Value) (H : BT XO) (n : Nat) (k : Kt) (v : Value) : Bool := match v with
  | .bool cb => oB (fun va => oB (fun vb => @Bool.rec (fun _ => Bool) (k vb H n) (k va H n) cb) b) a
  | _ => false
def hPick (c a b : Operand) : Hd := fun _ _ _ F H n k => oB (kPick (opF a F) (opF b F) H n k) (opF c F)

def kConvI (n0 : Int) (H : BT XO) (n : Nat) (k : Kt) (td : TI) : Bool := match td.desc with
  | .int kk => fI (kk.wrap n0) fun i => k (.int kk i) H n
  | _ => false
def kConv (E : EP) (src dst : TypeId) (g : Bool) (H : BT XO) (n : Nat) (k : Kt) (v : Value) : Bool := match v with
  | .int _ n0 => oB (fun _ => oB (kConvI n0 H n k) (E.T dst)) (E.T src)
  | _ => g
def hConv (src dst : TypeId) (x : Operand) : Hd := fun E rec o F H n k => oB (kConv E src dst (opEv E rec o F H n k) H n k) (opF x F)

def kExtract (i : Nat) (H : BT XO) (n : Nat) (k : Kt) (v : Value) : Bool := match v with
  | .tuple vs => oB (fun v => forceV v fun v => k v H n) (nthF vs.toList i)
  | _ => false
def hExtract (x : Operand) (i : Nat) : Hd := fun _ _ _ F H n k => oB (kExtract i H n k) (opF x F)

def ixAddr (b ofs len i esz : Nat) (H : BT XO) (n : Nat) (k : Kt) : Bool :=
  bB (Nat.blt i len) (fN (ofs + i * esz) fun o => k (.pointer (some ⟨b, o, none⟩)) H n)
def ixA (v : Value) (i : Nat) (H : BT XO) (n : Nat) (k : Kt) (ti : TI) : Bool := match v with
  | .slice (some ⟨b, ofs, none⟩) len _ => (match ti.desc with
    | .slice _ => ixAddr b ofs len i ti.esz H n k
    | _ => false)
  | .pointer (some ⟨b, ofs, none⟩) => (match ti.desc with
    | .array len _ => ixAddr b ofs len i ti.esz H n k
    | _ => false)
  | _ => false
def kIx (v : Value) (ti : Option TI) (H : BT XO) (n : Nat) (k : Kt) (j : Value) : Bool := match j with
  | .int _ (.ofNat i) => oB (ixA v i H n k) ti
  | _ => false
def hIndexAddr (t : TypeId) (x y : Operand) : Hd := fun E _ _ F H n k => oB (fun v => oB (kIx v (E.T t) H n k) (opF y F)) (opF x F)
def hGen : Hd := fun E rec o F H n k => opEv E rec o F H n k

def opSel (op : Op) : Hd :=
  @Op.rec (fun _ => Hd) hMove hMove hPick hAlloc (fun _ _ => hGen) (fun _ _ => hPu) (fun _ _ _ => hGen) (fun _ _ _ _ => hGen) hLoad hStore (fun _ => hGen) (fun _ => hGen) hNil
    (fun op t x y _ => hBin op t x y) (fun _ _ _ => hPu) hConv (fun _ _ => hGen) (fun _ _ => hGen) (fun _ _ _ => hPu) (fun _ _ => hGen) (fun _ _ => hGen) (fun _ _ _ => hGen) (fun _ _ _ _ _ => hGen)
    hFieldAddr (fun _ _ _ => hPu) hIndexAddr (fun _ _ _ => hPu) (fun _ _ _ _ => hGen) (fun _ _ _ _ => hGen) (fun _ _ _ => hGen) (fun _ _ _ _ => hGen) (fun _ _ => hGen) (fun _ _ => hGen) (fun _ => hGen)
    (fun _ _ _ _ => hGen) hExtract (fun _ => hGen) (fun _ => hGen) (fun _ => hGen) (fun _ => hGen) (fun _ _ => hGen) (fun _ _ _ => hGen) (fun _ _ => hGen) op

def opEvF (E : EP) (rec : Rec) (o : Oper) (F : BT Value) (H : BT XO) (n : Nat) (k : Kt) : Bool := opSel o.op E rec o F H n k

theorem opEv_ld {E : EP} {rec : Rec} {o : Oper} {F : BT Value} {H : BT XO} {n : Nat} {k : Kt} {v : Value} (h0 : puOp E.T o F = none) (hv : ldOp E.T o F H = some v) (h : k v H n = true) : opEv E rec o F H n k = true := by
  unfold opEv
  rw [h0, hv]
  simp only [forceV_eq]
  exact h

theorem opEv_ef1 {E : EP} {rec : Rec} {o : Oper} {F : BT Value} {H : BT XO} {n : Nat} {k : Kt} {e : Eff} (h0 : puOp E.T o F = none) (h1 : ldOp E.T o F H = none) (hv : efOp E.T o F H n = some [e]) (h : k e.1 e.2.1 e.2.2 = true) : opEv E rec o F H n k = true := by
  unfold opEv
  rw [h0, h1, hv]
  exact h

theorem opEvF_ok {E : EP} {rec : Rec} {o : Oper} {F : BT Value} {H : BT XO} {n : Nat} {k : Kt} (h : opEvF E rec o F H n k = true) : opEv E rec o F H n k = true := by
  obtain ⟨d, op, ty, p, af, g⟩ := o
  unfold opEvF at h
  cases op <;> first | exact h | exact hPu_ok h | skip
  case move x =>
    obtain ⟨v, h1, h2⟩ := oB_true (show hMove x E rec (default : Oper) F H n k = true from h)
    rw [opF_eq] at h1
    exact opEv_pu (by simp only [puOp, h1]) h2
  case assign x =>
    obtain ⟨v, h1, h2⟩ := oB_true (show hMove x E rec (default : Oper) F H n k = true from h)
    rw [opF_eq] at h1
    exact opEv_pu (by simp only [puOp, h1]) h2
  case pick c a b =>
    obtain ⟨v, h1, h2⟩ := oB_true (show hPick c a b E rec (default : Oper) F H n k = true from h)
    rw [opF_eq] at h1
    unfold kPick at h2
    split at h2
    · rename_i cb
      obtain ⟨va, h3, h4⟩ := oB_true h2
      obtain ⟨vb, h5, h6⟩ := oB_true h4
      rw [opF_eq] at h3 h5
      refine opEv_pu (v := pickV cb va vb) (by simp only [puOp, h1, h3, h5]) ?_
      cases cb <;> exact h6
    · cases h2
  case alloc t =>
    obtain ⟨ti, h1, h2⟩ := oB_true (show hAlloc t E rec (default : Oper) F H n k = true from h)
    obtain ⟨h3, h4⟩ := bB_true h2
    rw [putF_eq, fN_eq] at h4
    exact opEv_ef1 (e := (_, _, _)) rfl rfl (by simp only [efOp, h1, h3, cond_true]) h4
  case load t x =>
    obtain ⟨v, h1, h2⟩ := oB_true (show hLoad t x E rec (default : Oper) F H n k = true from h)
    obtain ⟨b, ofs, rfl, h2⟩ := oP_true h2
    obtain ⟨ti, h3, h2⟩ := oB_true h2
    obtain ⟨xo, h4, h2⟩ := oB_true h2
    rw [opF_eq] at h1
    rw [getF_eq] at h4
    unfold kLoad at h2
    split at h2
    · rename_i vs es lo hi op wr
      cases hag : ti.agg with
      | false =>
        rw [hag] at h2
        obtain ⟨v, h5, h6⟩ := oB_true h2
        rw [nthF_eq] at h5
        rw [forceV_eq] at h6
        exact opEv_ld rfl (by simp only [ldOp, h1, h3, h4, hag, h5]) h6
      | true =>
        rw [hag] at h2
        obtain ⟨h5, h6⟩ := bB_true h2
        exact opEv_ld rfl (by simp only [ldOp, h1, h3, h4, hag, h5, cond_true]) h6
    · cases h2
  case store t x y =>
    obtain ⟨v, h1, h2⟩ := oB_true (show hStore t x y E rec (default : Oper) F H n k = true from h)
    obtain ⟨b, ofs, rfl, h2⟩ := oP_true h2
    obtain ⟨u, h3, h2⟩ := oB_true h2
    obtain ⟨ti, h4, h2⟩ := oB_true h2
    obtain ⟨h5, h2⟩ := bB_true h2
    obtain ⟨xo, h6, h2⟩ := oB_true h2
    rw [opF_eq] at h1 h3
    rw [getF_eq] at h6
    unfold kStore at h2
    split at h2
    · rename_i vs es lo hi op
      obtain ⟨vs2, h7, h2⟩ := oB_true h2
      rw [splK_eq, putF_eq] at h2
      exact opEv_ef1 (e := (_, _, _)) rfl rfl (by simp only [efOp, h1, h3, h4, h5, h6, h7, cond_true]; rfl) h2
    · cases h2
  case nilCheck x =>
    obtain ⟨v, h1, h2⟩ := oB_true (show hNil x E rec (default : Oper) F H n k = true from h)
    obtain ⟨b, ofs, rfl, h2⟩ := oP_true h2
    rw [opF_eq] at h1
    exact opEv_pu (by simp only [puOp, h1]) h2
  case binOp op t x y yt =>
    obtain ⟨a, h1, h2⟩ := oB_true (show hBin op t x y E rec ⟨d, .binOp op t x y yt, ty, p, af, g⟩ F H n k = true from h)
    obtain ⟨b, h3, h2⟩ := oB_true h2
    rw [opF_eq] at h1 h3
    cases hb : binX E.T op t a b with
    | none => rw [hb] at h2; exact h2
    | some v =>
      rw [hb] at h2
      simp only [forceV_eq] at h2
      exact opEv_pu (by simp only [puOp, h1, h3, hb]) h2
  case convert src dst x =>
    obtain ⟨v, h1, h2⟩ := oB_true (show hConv src dst x E rec ⟨d, .convert src dst x, ty, p, af, g⟩ F H n k = true from h)
    rw [opF_eq] at h1
    unfold kConv at h2
    split at h2
    · rename_i kk0 n0
      obtain ⟨ts, h3, h2⟩ := oB_true h2
      obtain ⟨td, h4, h2⟩ := oB_true h2
      unfold kConvI at h2
      split at h2
      · rename_i kk hd
        rw [fI_eq] at h2
        exact opEv_pu (by simp only [puOp, h1, h3, h4, hd]) h2
      · cases h2
    · exact h2
  case fieldAddr t x fl =>
    obtain ⟨v, h1, h2⟩ := oB_true (show hFieldAddr t x fl E rec (default : Oper) F H n k = true from h)
    obtain ⟨b, ofs, rfl, h2⟩ := oP_true h2
    obtain ⟨ti, h3, h2⟩ := oB_true h2
    obtain ⟨h4, h2⟩ := bB_true h2
    obtain ⟨fs, h4⟩ := isStruct_true h4
    obtain ⟨fd, h5, h2⟩ := oB_true h2
    rw [opF_eq] at h1
    unfold kFld at h2
    split at h2
    · rw [fN_eq] at h2
      exact opEv_pu (by simp only [puOp, h1, h3, h4, h5]) h2
    · cases h2
  case indexAddr t x y =>
    obtain ⟨v, h1, h2⟩ := oB_true (show hIndexAddr t x y E rec (default : Oper) F H n k = true from h)
    obtain ⟨j, h3, h2⟩ := oB_true h2
    rw [opF_eq] at h1 h3
    unfold kIx at h2
    split at h2
    · rename_i kk i
      obtain ⟨ti, h4, h2⟩ := oB_true h2
      unfold ixA at h2
      split at h2
      · split at h2
        · rename_i hd
          obtain ⟨h5, h2⟩ := bB_true h2
          rw [fN_eq] at h2
          exact opEv_pu (by simp only [puOp, h1, h3, natOf, h4, hd, h5, cond_true]) h2
        · cases h2
      · split at h2
        · rename_i hd
          obtain ⟨h5, h2⟩ := bB_true h2
          rw [fN_eq] at h2
          exact opEv_pu (by simp only [puOp, h1, h3, natOf, h4, hd, h5, cond_true]) h2
        · cases h2
      · cases h2
    · cases h2
  case extract x i =>
    obtain ⟨v, h1, h2⟩ := oB_true (show oB (kExtract i H n k) (opF x F) = true from h)
    rw [opF_eq] at h1
    unfold kExtract at h2
    split at h2
    · obtain ⟨v, h3, h2⟩ := oB_true h2
      rw [nthF_eq] at h3
      rw [forceV_eq] at h2
      exact opEv_pu (by simp only [puOp, h1, h3]) h2
    · cases h2

abbrev Kf := BT Value → BT XO → Nat → Bool

def wantF (ops : List Oper) (F : BT Value) (o : Oper) : Option Bool :=
  @Option.rec (Nat × Bool) (fun _ => Option Bool) (some true) (fun _ => wantX ops F o) o.guard

theorem wantF_eq {ops : List Oper} {F : BT Value} {o : Oper} : wantF ops F o = wantX ops F o := by
  unfold wantF
  cases hg : o.guard with
  | none => unfold wantX; rw [hg]
  | some g => rfl

def kPut (d : Option Tmp) (F : BT Value) (ih : BT Value → BT XO → Nat → Kf → Bool) (k : Kf) (v : Value) (H : BT XO) (n : Nat) : Bool := putDF d F v fun F => ih F H n k

def opsStep (E : EP) (rec : Rec) (ops : List Oper) (o : Oper) (ih : BT Value → BT XO → Nat → Kf → Bool) (F : BT Value) (H : BT XO) (n : Nat) (k : Kf) : Bool :=
  oB (fun w => @Bool.rec (fun _ => Bool) (kPut o.dst F ih k undef H n) (opEvF E rec o F H n (kPut o.dst F ih k)) w) (wantF ops F o)

def opsF (E : EP) (rec : Rec) (ops : List Oper) (l : List Oper) : BT Value → BT XO → Nat → Kf → Bool :=
  @List.rec Oper (fun _ => BT Value → BT XO → Nat → Kf → Bool) (fun F H n k => k F H n) (fun o _ ih => opsStep E rec ops o ih) l

theorem opsF_ok {P : Program} {W0 : AHeap} {E : EP} {rec : Rec} {N : Nat} (hE : EOk P W0 E) (hs : Snd P W0 rec) {ops : List Oper} {k : Kf} {R0 : RelB} : ∀ (l : List Oper) {F : BT Value} {t : Array Value} {n : Nat} {H : BT XO} {A : AHeap} {R : RelB},
    opsF E rec ops l F H n k = true → (∀ o ∈ l, dstOk N o.dst = true) → Sub R0 R → HX W0 R n H A → FR R N F t → OpsX P ops.toArray (RegPost W0 R0 N k) l t A := by
  intro l
  induction l with
  | nil => intro F t n H A R h _ h0 hx hF; exact ⟨R, F, H, n, h0, hx, hF, h⟩
  | cons o l ih =>
    intro F t n H A R h hall h0 hx hF
    have hd := hall o List.mem_cons_self
    have hall' : ∀ o ∈ l, dstOk N o.dst = true := fun o ho => hall o (List.mem_cons_of_mem _ ho)
    obtain ⟨w, hw, h⟩ := oB_true (show opsStep E rec ops o (opsF E rec ops l) F H n k = true from h)
    rw [wantF_eq] at hw
    simp only [OpsX]
    cases w with
    | true =>
      rw [wantX_ok hF hw, if_pos rfl]
      refine (opEv_ok hE hs (opEvF_ok h) hx hF).mono ?_
      rintro u A' ⟨R', v, H', n', h1, h2, h3, h4⟩
      unfold kPut at h4
      rw [putDF_eq] at h4
      exact ih h4 hall' (h0.trans h1) h2 ((hF.mono h1).put hd h3)
    | false =>
      rw [wantX_ok hF hw, if_neg (by simp)]
      have h := (show kPut o.dst F (opsF E rec ops l) k undef H n = true from h)
      unfold kPut at h
      rw [putDF_eq] at h
      exact ih h hall' h0 hx (hF.put hd .undef)

def regOk (N : Nat) (ops : List Oper) : Bool := noDeferB ops && ops.all fun o => dstOk N o.dst

/-! Pieces of code. -/

abbrev Kr := Res → BT XO → Nat → Bool
abbrev Hc := EP → Rec → Option Nat → Nat → Nat → BT Value → List Nat → BT XO → Nat → Kr → Bool

def onNormal (kn : BT Value → List Nat → BT XO → Nat → Bool) (k : Kr) (res : Res) (H : BT XO) (n : Nat) : Bool :=
  @Res.rec (fun _ => Bool) (fun e F ds => @Exit.rec (fun _ => Bool) (kn F ds H n) (fun id => k (.ex (.exit id) F ds) H n) (fun l => k (.ex (.goto l) F ds) H n) (k (.ex .ret F ds) H n) (fun c => k (.ex (.panic c) F ds) H n) (k (.ex .outgrown F ds) H n) e) (fun v => k (.val v) H n) res

def cSeq (a b : Code) : Hc := fun _ rec r f N F ds H n k => rec (.code r f N a F ds) H n (onNormal (fun F ds H n => rec (.code r f N b F ds) H n k) k)
def kCond (rec : Rec) (r : Option Nat) (f N : Nat) (F : BT Value) (ds : List Nat) (H : BT XO) (n : Nat) (k : Kr) (a b : Code) (v : Value) : Bool := match v with
  | .bool x => @Bool.rec (fun _ => Bool) (rec (.code r f N b F ds) H n k) (rec (.code r f N a F ds) H n k) x
  | _ => false
def cCond (c : Operand) (a b : Code) : Hc := fun _ rec r f N F ds H n k => oB (kCond rec r f N F ds H n k a b) (opF c F)
def kBlock (id : Nat) (k : Kr) (res : Res) (H : BT XO) (n : Nat) : Bool :=
  @Res.rec (fun _ => Bool) (fun e F ds => @Exit.rec (fun _ => Bool) (k (.ex .normal F ds) H n) (fun id' => @Bool.rec (fun _ => Bool) (k (.ex (.exit id') F ds) H n) (k (.ex .normal F ds) H n) (Nat.beq id' id)) (fun l => k (.ex (.goto l) F ds) H n) (k (.ex .ret F ds) H n) (fun c => k (.ex (.panic c) F ds) H n) (k (.ex .outgrown F ds) H n) e) (fun v => k (.val v) H n) res
def cBlock (id : Nat) (a : Code) : Hc := fun _ rec r f N F ds H n k => rec (.code r f N a F ds) H n (kBlock id k)
def kReg (ds : List Nat) (k : Kr) (F : BT Value) (H : BT XO) (n : Nat) : Bool := k (.ex .normal F ds) H n
def cReg (id : Nat) (ops : Array Oper) (draw : Bool) : Hc := fun E rec r f N F ds H n k =>
  @Bool.rec (fun _ => Bool)
    (bB (regOk N ops.toList) (opsF E rec ops.toList ops.toList F H n (kReg ds k)))
    (stepEv E rec (.code r f N (.region id ops true) F ds) H n k) draw
def cLoop (a : Code) : Hc := fun _ rec r f N F ds H n k => rec (.loop r f N a F ds) H n k
def cGen (c : Code) : Hc := fun E rec r f N F ds H n k => stepEv E rec (.code r f N c F ds) H n k

def cSel (c : Code) : Hc :=
  @Code.rec (fun _ => Hc) (cGen .skip) cReg (fun a b _ _ => cSeq a b) (fun c a b _ _ => cCond c a b) (fun id a _ => cBlock id a) (fun a _ => cLoop a) (fun g ps a b _ _ => cGen (.rangeFunc g ps a b)) (fun id => cGen (.exit id)) (fun a _ => cGen (.scope a))
    (fun l => cGen (.label l)) (fun l => cGen (.goto l)) (cGen .ret) (fun w => cGen (.refuse w)) c

def stepF (E : EP) (rec : Rec) (t : Task) (H : BT XO) (n : Nat) (k : Kr) : Bool :=
  @Task.rec (fun _ => Bool) (fun r f N c F ds => cSel c E rec r f N F ds H n k) (fun r f N c F ds => rec (.code r f N c F ds) H n (onNormal (fun F ds H n => rec (.loop r f N c F ds) H n k) k)) (fun f args => stepEv E rec (.call f args) H n k) t

def evF (E : EP) (n : Nat) : Rec := @Nat.rec (fun _ => Rec) (fun _ _ _ _ => false) (fun _ ih => stepF E ih) n

theorem onNormal_eq (kn : BT Value → List Nat → BT XO → Nat → Bool) (k : Kr) : onNormal kn k = fun res H n => match res with
    | .ex .normal F ds => kn F ds H n
    | res => k res H n := by
  funext res H n
  cases res with
  | val v => rfl
  | ex e F ds => cases e <;> rfl

theorem kBlock_eq (id : Nat) (k : Kr) : kBlock id k = fun res H n => match res with
      | .ex (.exit id') F ds => bif Nat.beq id' id then k (.ex .normal F ds) H n else k (.ex (.exit id') F ds) H n
      | res => k res H n := by
  funext res H n
  cases res with
  | val v => rfl
  | ex e F ds =>
    cases e <;> first | rfl | skip
    rename_i id'
    show @Bool.rec (fun _ => Bool) (k (.ex (.exit id') F ds) H n) (k (.ex .normal F ds) H n) (Nat.beq id' id) = _
    simp only
    cases Nat.beq id' id <;> rfl

theorem stepF_code {P : Program} {W0 : AHeap} {E : EP} {rec : Rec} (hE : EOk P W0 E) (hs : Snd P W0 rec) {r : Option Nat} {f N : Nat} {c : Code} {F : BT Value} {ds : List Nat} {H : BT XO} {n : Nat} {k : Res → BT XO → Nat → Bool} (h : cSel c E rec r f N F ds H n k = true)
    {R : RelB} {A : AHeap} {t : Array Value} {defs : List Deferred} {r' : Option Nat} (hr : RR R r r') (hx : HX W0 R n H A) (hF : FR R N F t) (hd : DL R ds defs) : CodeX r' P c t defs A (OutPost W0 R N k) := by
  have go : stepEv E rec (.code r f N c F ds) H n k = true → CodeX r' P c t defs A (OutPost W0 R N k) := fun h => step_code hE hs h hr hx hF hd
  cases c <;> first | exact go h | skip
  case region id ops draw =>
    cases draw with
    | true => exact go h
    | false =>
      obtain ⟨h1, h2⟩ := bB_true (show bB (regOk N ops.toList) (opsF E rec ops.toList ops.toList F H n (kReg ds k)) = true from h)
      simp only [regOk, Bool.and_eq_true, List.all_eq_true] at h1
      obtain ⟨ops⟩ := ops
      refine codeX_region h1.1 ((opsF_ok hE hs ops h2 h1.2 (.refl R) hx hF).mono ?_)
      rintro t1 A1 ⟨R1, F1, H1, n1, q1, q2, q3, q4⟩
      exact ⟨R1, F1, ds, H1, n1, q1, q2, q3, hd.mono q1, q4⟩
  case seq a b =>
    refine go ?_
    have h := (show rec (.code r f N a F ds) H n (onNormal (fun F ds H n => rec (.code r f N b F ds) H n k) k) = true from h)
    rw [onNormal_eq] at h
    exact h
  case cond c a b =>
    refine go ?_
    obtain ⟨v, h1, h2⟩ := oB_true (show oB (kCond rec r f N F ds H n k a b) (opF c F) = true from h)
    rw [opF_eq] at h1
    unfold kCond at h2
    split at h2
    · rename_i x
      simp only [stepEv, h1]
      cases x <;> exact h2
    · cases h2
  case block id a =>
    refine go ?_
    have h := (show rec (.code r f N a F ds) H n (kBlock id k) = true from h)
    rw [kBlock_eq] at h
    exact h

theorem evF_ok {P : Program} {W0 : AHeap} {E : EP} (hE : EOk P W0 E) : ∀ n, Snd P W0 (evF E n) := by
  intro n
  induction n with
  | zero => exact ⟨fun _ _ _ _ _ _ _ _ _ h => by (cases h), fun _ _ _ _ _ _ _ _ _ h => by (cases h), fun _ _ _ _ _ h => by (cases h)⟩
  | succ n ih =>
    refine ⟨fun _ _ _ _ _ _ _ _ _ h R A t defs r' h1 h2 h3 h4 => stepF_code hE ih h h1 h2 h3 h4, fun r f N c F ds H n k h R A t defs r' h1 h2 h3 h4 => step_loop (E := E) (f := f) ih ?_ h1 h2 h3 h4,
      fun _ _ _ _ _ h R A args' h1 h2 => step_call hE ih h h1 h2⟩
    have h := (show evF E _ (.code r f N c F ds) H n (onNormal (fun F ds H n => evF E _ (.loop r f N c F ds) H n k) k) = true from h)
    rw [onNormal_eq] at h
    exact h

/-- what the evaluator answers is so, whatever memory holds -/
theorem evF_call {P : Program} {E : EP} {n f : Nat} {args : List Value} {k : Res → BT XO → Nat → Bool} (A : AHeap) (hE : EOk P A E) (hfl : args.all flatB = true) (h : evF E n (.call f args) .leaf 0 k = true) {p : Value → Prop} (hk : ∀ v H m, k (.val v) H m = true → ∀ R u, VR R v u → p u) :
    SemA P (callFunc f args.toArray) A (opNextX P fun u A' => p u ∧ A.next ≤ A'.next ∧ ∀ b, b < A.next → A'.get b = A.get b) := by
  have hx : HX A (fun _ _ _ => False) 0 .leaf A := ⟨fun _ _ _ h => h.elim, fun _ _ _ _ _ h => h.elim, fun _ _ _ _ _ _ _ h => by simp [BT.get] at h, fun _ _ h => by simp [BT.get] at h, fun _ _ _ => rfl, Nat.le_refl _, fun _ _ _ h => h.elim⟩
  refine ((evF_ok hE n).call _ _ _ _ _ h _ A args hx (.refl_flat hfl)).mono fun nx A' _ hq => opNextX.mono ?_ hq
  rintro u A' ⟨R', v, H', n', h1, h2, h3, h4⟩
  exact ⟨hk _ _ _ h4 _ _ h3, h2.le, fun b hb => h2.fr b hb fun b0 κ hr => Nat.lt_irrefl _ (Nat.lt_of_lt_of_le hb (h2.ge _ _ _ hr))⟩

theorem evF_spec {P : Program} {E : EP} {n f : Nat} {args : List Value} {k : Res → BT XO → Nat → Bool} (hent : entersB P f = true) (hE : ∀ A, EOk P A E) (hfl : args.all flatB = true) (h : evF E n (.call f args) .leaf 0 k = true) {p : Value → Prop}
    (hk : ∀ v H m, k (.val v) H m = true → ∀ R u, VR R v u → p u) (H : Heap) : Spec P f args H (fun v G => G = H ∧ p v) := by
  refine Spec.any ⟨hent, fun A hA => ?_⟩ H
  refine (callA_of_sem hent (evF_call A (hE A) hfl h hk)).mono ?_
  rintro u A' hs ⟨h1, h2, h3⟩
  exact ⟨[], ⟨List.nodup_nil, (fun _ h => by cases h)⟩, ⟨hs, h2, (fun _ h => by cases h), fun b hb _ => h3 b hb⟩, rfl, h1⟩

end
end Go.Am

namespace Go.Am
open Go Go.RowKit

section orac
variable {P : Program} {W0 : AHeap} {R : RelB} {n : Nat} {H : BT XO} {A : AHeap}

theorem semA_ext {f : FuncId} {fn : Func} {e : Array Value → Sem Value} {args : Array Value} {v : Value} {K : Value → AHeap → Prop}
    (hf : P.funcs[f]? = some fn) (hname : (fn.name == "runtime.NumGoroutine") = false) (hb : fn.body = none) (hnx : Extern.findNext fn = none) (he : Extern.find fn = some e)
    (hr : ∀ w, HR A w → (e args).run P w = .ok v w) (hk : K v A) : SemA P (callFunc f args) A (opNextX P K) := by
  intro w hw
  have h1 := run_callFunc_extern (P := P) (f := f) (fn := fn) (e := e) hf hname (by rw [hb]; rfl) hnx he args w
  refine ⟨.value v, A, w, ?_, hw, .refl A, hk⟩
  rw [h1, hr w hw]
  rfl

theorem EfPost.same (hx : HX W0 R n H A) {v u : Value} (hv : VR R v u) : EfPost W0 R [(v, H, n)] u A :=
  ⟨_, List.mem_cons_self, R, fun _ _ _ h => h, hx, hv⟩

theorem run_sizeOf_ti {t : TypeId} {ti : TI} (h : TiSpec P t ti) (w : World) : (Go.sizeOf t).run P w = .ok ti.size w := by
  obtain ⟨i, z, h1, h2, _⟩ := h.info
  simp [Go.sizeOf, typeInfo, program, Sem.run, h1, h2]

/-- slices.overlaps at two blocks -/
theorem overlaps_ok {f : FuncId} {fn : Func} {tS tR e : TypeId} {ts te : TI} (hf : P.funcs[f]? = some fn) (hname : (fn.name == "runtime.NumGoroutine") = false) (hb : fn.body = none) (hnx : Extern.findNext fn = none)
    (he : Extern.find fn = some (Extern.SlicesOverlaps.overlaps #[tS, tS] #[tR])) (hS : TiSpec P tS ts) (hSd : ts.desc = .slice e) (hte : TiSpec P e te)
    (hx : HX W0 R n H A) {a b o p l c m d : Nat} {u v : Value} {vs es lo hi op} {y : Value} {ws es' lo' hi' op' wr'} (hva : VR R (.slice (some ⟨a, o, none⟩) l c) u) (hvb : VR R (.slice (some ⟨b, p, none⟩) m d) v) (hne : a ≠ b)
    (ha : H.get a = some (.cells vs es lo hi op true)) (hbb : H.get b = some (.cells (y :: ws) es' lo' hi' op' wr')) : SemA P (callFunc f #[u, v]) A (opNextX P (EfPost W0 R [(.bool false, H, n)])) := by
  obtain ⟨a', κ, c', h1, rfl, _⟩ := hva.slice_inv
  obtain ⟨b', κ', d', h2, rfl, _⟩ := hvb.slice_inv
  have hne' : a' ≠ b' := fun h => hne (hx.inj _ _ _ _ _ _ _ ha hbb h1 (h ▸ h2))
  obtain ⟨us, opr, wr1, k1, k2, _⟩ := hx.at ha h1
  obtain ⟨us2, opr2, wr2, j1, j2, j3, j4⟩ := hx.at hbb h2
  have hw1 : wr1 = true := k2 rfl
  subst hw1
  refine semA_ext (v := .bool false) hf hname hb hnx he (fun w hw => ?_) (.same hx (.flat _ rfl))
  obtain ⟨cs, e1, fz, g1, g2, g3, g4⟩ := hw.cells _ _ _ _ k1
  obtain ⟨cs2, e2, fz2, q1, q2, q3, q4⟩ := hw.cells _ _ _ _ j1
  have hfz := (g4 rfl).1
  obtain ⟨flo, fhi⟩ := fz
  simp only at hfz
  subst hfz
  have hfr : ∀ off, w.frozen? ⟨a', off, none⟩ = false := fun off => by
    simp only [World.frozen?, g1]
    by_cases h : flo ≤ off <;> simp [h]
  refine Lib.run_overlaps_apart w tS tR e (by rw [hS.und, hSd]) te.size (fun w => run_sizeOf_ti hte w) _ _ _ _ _ _ hne' e1 e2 cs.size cs2.size (by simp [World.shape?, g1]) (by simp [World.shape?, q1]) ?_ (hfr _) (hfr _)
  have hl : 0 < us2.length := by
    have := j3
    simp only [List.length_cons] at this
    omega
  have := q2 0 _ (List.getElem?_eq_getElem hl)
  have := (Array.getElem?_eq_some_iff.1 this).1
  omega

def strs : List Value → Option (List BS)
  | [] => some []
  | .string s :: l => match strs l with
    | some r => some (s.data.toList :: r)
    | none => none
  | _ => none
def joinL : List BS → BS → BS
  | [], _ => []
  | [a], _ => a
  | a :: l, s => a ++ (s ++ joinL l s)

theorem joinL_eq (xs : List BS) (sep : BS) : joinL xs sep = Lib.join xs sep := by
  induction xs with
  | nil => rfl
  | cons a l ih =>
    cases l with
    | nil => exact (Lib.join_one a sep).symm
    | cons b l =>
      rw [Lib.join_cons]
      show a ++ (sep ++ joinL (b :: l) sep) = _
      rw [ih, Lib.join_cons]
      simp [Lib.joinTail]

theorem strs_spec : ∀ {vs : List Value} {ss : List BS}, strs vs = some ss → vs = ss.map S := by
  intro vs
  induction vs with
  | nil => intro ss h; simp only [strs, Option.some.injEq] at h; subst h; rfl
  | cons v vs ih =>
    intro ss h
    cases v <;> simp only [strs, reduceCtorEq] at h
    rename_i s
    split at h
    · rename_i r hr
      simp only [Option.some.injEq] at h; subst h
      rw [ih hr]
      simp [S]
    · cases h

/-- memory above the line is another's -/
theorem HR.below {w w' : World} (hw : HR A w) (h : Below w.heap.size w w') : HR { A with next := w'.heap.size } w' := by
  have hlt : ∀ {b : Nat} {o : Obj}, w.heap[b]? = some o → w'.heap[b]? = some o := fun {b o} hb => by
    rw [h.block b (Array.getElem?_eq_some_iff.1 hb).1, hb]
  refine ⟨rfl, ?_, ?_, ?_, ?_, h.os.trans hw.os, h.output.trans hw.out, h.tape.trans hw.tape⟩
  · have h1 := hw.le
    have h2 := hw.next
    have h3 := h.size
    show A.base.heap.size ≤ w'.heap.size
    omega
  · intro b vs op wr hg
    obtain ⟨cs, e, fz, h1, h2⟩ := hw.cells b vs op wr hg
    exact ⟨cs, e, fz, hlt h1, h2⟩
  · intro b o wr hg
    obtain ⟨h1, h2⟩ := hw.obj b o wr hg
    exact ⟨hlt h1, h2⟩
  · intro b hb hno
    have h1 := hw.le
    have h2 := hw.next
    rw [h.block b (by have hb' : b < A.base.heap.size := hb; omega)]
    exact hw.kept b hb hno

theorem below_ok {f : FuncId} {args : Array Value} {v u : Value} (hent : entersB P f = true) (hx : HX W0 R n H A) (hv : VR R v u)
    (h : ∀ w, HR A w → Calls P f args w fun e w' => e = .returned u ∧ Below w.heap.size w w') : SemA P (callFunc f args) A (opNextX P (EfPost W0 R [(v, H, n)])) := by
  refine sem_of_callA hent fun w hw => (h w hw).mono ?_
  rintro e w' ⟨rfl, hb⟩
  have h2 := hw.next
  have h3 := hb.size
  exact ⟨u, _, rfl, hw.below hb, ⟨rfl, rfl⟩, .same (hx.keep (B := { A with next := w'.heap.size }) (by show A.next ≤ w'.heap.size; omega) fun _ _ => rfl) hv⟩

/-- strings.Join -/
theorem join_ok {f : FuncId} (hent : entersB P f = true)
    (hJ : ∀ (bk o c : Nat) (xs : List ByteArray) (sep : ByteArray) (w : World), (∀ (j : Nat) x, xs[j]? = some x → w.cell? ⟨bk, o + j, none⟩ = some (.string x)) → bk < w.heap.size → xs.length ≤ 140737488355328 → xs.length ≤ c →
      (Lib.join (xs.map (·.data.toList)) sep.data.toList).length ≤ 140737488355328 →
      Calls P f #[.slice (some ⟨bk, o, none⟩) xs.length c, .string sep] w fun e w' => e = .returned (.string ⟨(Lib.join (xs.map (·.data.toList)) sep.data.toList).toArray⟩) ∧ Below w.heap.size w w')
    (hx : HX W0 R n H A) {a o l c : Nat} {sep : ByteArray} {u : Value} {vs : List Value} {es lo hi : Nat} {op wr : Bool} {ss : List BS} (hv : VR R (.slice (some ⟨a, o, none⟩) l c) u) (ha : H.get a = some (.cells vs es lo hi op wr))
    (hl : o + l ≤ vs.length) (hss : strs (sub vs o l) = some ss) (hc : l ≤ c) (hcb : c < bigU) (hN : l ≤ 140737488355328) (hlen : (joinL ss sep.data.toList).length ≤ 140737488355328) :
    SemA P (callFunc f #[u, .string sep]) A (opNextX P (EfPost W0 R [(S (joinL ss sep.data.toList), H, n)])) := by
  obtain ⟨a', κ, c', h1, rfl, hcc⟩ := hv.slice_inv
  have hc' : c' = c := by
    rcases hcc with ⟨_, h⟩ | ⟨k, h, _⟩
    · exact h
    · omega
  subst hc'
  obtain ⟨us, opr, wr', k1, k2, k3, k4, k5, _⟩ := hx.cells h1 ha
  have hs := strs_spec hss
  rw [sub_eq] at hs
  have hlen2 : ss.length = l := by
    have := congrArg List.length hs
    simp only [List.length_take, List.length_drop, List.length_map] at this
    omega
  have e1 : (ss.map fun x => (⟨x.toArray⟩ : ByteArray)).map (·.data.toList) = ss := by
    rw [List.map_map]; simp [Function.comp_def]
  refine below_ok (u := S (joinL ss sep.data.toList)) hent hx (.flat _ rfl) fun w hw => ?_
  have := hJ a' o c' (ss.map fun x => (⟨x.toArray⟩ : ByteArray)) sep w ?_ ?_ ?_ ?_ ?_
  · rw [e1, ← joinL_eq] at this
    rw [List.length_map, hlen2] at this
    exact this
  · intro j x hj
    rw [List.getElem?_map] at hj
    obtain ⟨y, hy, rfl⟩ := Option.map_eq_some_iff.1 hj
    have hjl : j < l := by rw [← hlen2]; exact (List.getElem?_eq_some_iff.1 hy).1
    have hvj : vs[o + j]? = some (S y) := by
      have h3 : (ss.map S)[j]? = some (S y) := by rw [List.getElem?_map, hy]; rfl
      rw [← hs, List.getElem?_take, if_pos hjl, List.getElem?_drop] at h3
      exact h3
    obtain ⟨w0, h4, h5⟩ := cells_nth k5 (by rw [nth_eq]; exact hvj)
    have h6 : w0 = S y := h5.string
    subst h6
    refine hw.cell ?_
    simp only [AHeap.cell?, k1]
    show (if false = true then none else us[o + j]?) = some (S y)
    simpa using h4
  · have := (hx.lt _ _ _ h1).2
    rw [hw.next]; exact this
  · rw [List.length_map, hlen2]; exact hN
  · rw [List.length_map, hlen2]; exact hc
  · rw [e1, ← joinL_eq]; exact hlen

end orac
end Go.Am
