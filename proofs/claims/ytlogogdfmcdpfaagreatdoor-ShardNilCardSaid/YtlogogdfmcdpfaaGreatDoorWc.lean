/-
Rules for slices, texts, maps.
-/
import Derived.Test.YtlogogdfmcdpfaaGreatDoorWb
import Derived.Laws.BytesString
import Derived.Laws.Strings
import Derived.Lib.Bytealg
set_option linter.all false
namespace Go.Am
open Go

inductive TT where
  | leaf
  | node (k : Nat) (v : TI) (l r : TT)

def TT.get : TT → Nat → Option TI
  | .leaf, _ => none
  | .node k v l r, t => bif Nat.beq t k then some v else bif Nat.blt t k then l.get t else r.get t

def TT.Ok (P : Program) : TT → Prop
  | .leaf => True
  | .node k v l r => tiOf P k = some v ∧ l.Ok P ∧ r.Ok P

theorem TT.Ok.tab {P : Program} : ∀ {t : TT}, t.Ok P → TabOk P t.get := by
  intro t
  induction t with
  | leaf => intro _ k i h; cases h
  | node k v l r ihl ihr =>
    intro h j i hj
    obtain ⟨h1, h2, h3⟩ := h
    simp only [TT.get] at hj
    cases hb : Nat.beq j k with
    | true =>
      rw [hb] at hj
      simp only [cond_true, Option.some.injEq] at hj
      obtain rfl := Nat.eq_of_beq_eq_true hb
      rw [h1, hj]
    | false =>
      rw [hb] at hj
      simp only [cond_false] at hj
      cases hl : Nat.blt j k with
      | true => rw [hl] at hj; exact ihl h2 _ _ hj
      | false => rw [hl] at hj; exact ihr h3 _ _ hj

end Go.Am

namespace Go.Am
open Go

structure Spec (P : Program) (f : FuncId) (args : List Value) (H : Heap) (Q : Value → Heap → Prop) : Prop where
  he : entersB P f = true
  h : CallS P f args.toArray H Q

theorem CallP.use {P : Program} {f : FuncId} {args : List Value} {H : Heap} {Q K : Value → Heap → Prop} (h : Spec P f args H Q) (hk : ∀ v H', Q v H' → K v H') : CallP P f args H K := ⟨fun A hA => callFunc_enters h.he args.toArray A _ (h.h.mono hk A hA)⟩

theorem Spec.mono {P : Program} {f : FuncId} {args : List Value} {H : Heap} {Q K : Value → Heap → Prop} (h : Spec P f args H Q) (hk : ∀ v H', Q v H' → K v H') : Spec P f args H K := ⟨h.he, h.h.mono hk⟩

theorem CallS.drop {P : Program} {f : FuncId} {args : Array Value} {H : Heap} {Q : Value → Heap → Prop} (h : CallS P f args H (fun v H' => DropP H' (Q v))) : CallS P f args H Q := by
  intro A hH
  refine (h A hH).mono ?_
  rintro v A' _ ⟨H', h1, h2, ⟨G, h3, h4⟩⟩
  obtain ⟨k1, k2⟩ := h3.sl h1
  exact ⟨G, k1, h2.trans k2, h4⟩

theorem CallS.nodup {P : Program} {f : FuncId} {args : Array Value} {H : Heap} {Q : Value → Heap → Prop} (h : (keys H).Nodup → CallS P f args H Q) : CallS P f args H Q :=
  fun A hH => h hH.1 A hH

theorem Spec.frame {P : Program} {f : FuncId} {args : List Value} {H Hc R : Heap} {Q : Value → Heap → Prop} (h : Spec P f args Hc Q) (hs : Sel H Hc R) : Spec P f args H (fun v G => ∃ H', G = H' ++ R ∧ Q v H') :=
  ⟨h.he, h.h.frame hs⟩

theorem Sel.none (H : Heap) : Sel H [] H := .nil

/-- what asks nothing of memory and leaves nothing there -/
theorem Spec.any {P : Program} {f : FuncId} {args : List Value} {Q : Value → Prop} (h : Spec P f args [] (fun v H => H = [] ∧ Q v)) (H : Heap) : Spec P f args H (fun v G => G = H ∧ Q v) :=
  (h.frame (.none H)).mono fun _ _ ⟨_, h1, h2, h3⟩ => ⟨by rw [h1, h2]; rfl, h3⟩

theorem specE {P : Program} {T : Nat → Option TI} (hT : TabOk P T) (hm : P.follows .mixedOrders = true) {f : FuncId} {fn : Func} {c : Code} {args : List Value} {H : Heap} {Q : Value → Heap → Prop} {N : Nat}
    (hf : P.funcs[f]? = some fn) (hb : fn.body = some c) (hn : fn.ntmps = N) (hl : Nat.ble args.length N = true) (he : entersB P f = true) (h : codeE P T N c (doneE T fn (fun v H' => DropP H' (Q v))) (fargs args 0) H) :
    Spec P f args H Q :=
  ⟨he, (callE hT hm hf hb hn hl h).drop⟩

theorem SubH.refl : ∀ (H : Heap), SubH H H
  | [] => .nil
  | _ :: H => .cons .here (SubH.refl H)

theorem DropP.id {H : Heap} {K : Heap → Prop} (h : K H) : DropP H K := ⟨H, .refl H, h⟩

theorem SubH.tail {H G : Heap} (x : Nat × AObj) (h : SubH H G) : SubH (x :: H) G := by
  induction h with
  | nil => exact .nil
  | cons ht _ ih => exact .cons (.there ht) ih

theorem DropP.tail {x : Nat × AObj} {H : Heap} {K : Heap → Prop} (h : DropP H K) : DropP (x :: H) K :=
  ⟨h.ex.choose, SubH.tail x h.ex.choose_spec.1, h.ex.choose_spec.2⟩

/-! Numbers. -/

theorem wrap_i64 {n : Int} (h1 : -9223372036854775808 ≤ n) (h2 : n < 9223372036854775808) : IntKind.i64.wrap n = n := by
  have h : IntKind.i64.wrap n = if 9223372036854775808 ≤ n % 18446744073709551616 then n % 18446744073709551616 - 18446744073709551616 else n % 18446744073709551616 := by
    simp [IntKind.wrap, IntKind.bits, IntKind.signed]
  rw [h]; split <;> omega

theorem wrap_u (k : IntKind) (hk : k.signed = false) {n : Nat} (h : n < 2 ^ k.bits) : k.wrap (n : Int) = n := by
  have : (n : Int) < 2 ^ k.bits := by exact_mod_cast h
  simp only [IntKind.wrap, hk, Bool.false_and, Bool.false_eq_true, if_false]
  exact Int.emod_eq_of_lt (by omega) this

theorem xor_u (k : IntKind) (hk : k.signed = false) {a b : Nat} (ha : a < 2 ^ k.bits) (hb : b < 2 ^ k.bits) :
    k.wrap (BitVec.ofInt k.bits (a : Int) ^^^ BitVec.ofInt k.bits (b : Int)).toNat = ((a ^^^ b : Nat) : Int) := by
  rw [BitVec.ofInt_natCast, BitVec.ofInt_natCast, BitVec.toNat_xor, BitVec.toNat_ofNat, BitVec.toNat_ofNat, Nat.mod_eq_of_lt ha, Nat.mod_eq_of_lt hb]
  exact wrap_u k hk (Nat.xor_lt_two_pow ha hb)

theorem and_u (k : IntKind) (hk : k.signed = false) {a b : Nat} (ha : a < 2 ^ k.bits) (hb : b < 2 ^ k.bits) :
    k.wrap (BitVec.ofInt k.bits (a : Int) &&& BitVec.ofInt k.bits (b : Int)).toNat = ((a &&& b : Nat) : Int) := by
  rw [BitVec.ofInt_natCast, BitVec.ofInt_natCast, BitVec.toNat_and, BitVec.toNat_ofNat, BitVec.toNat_ofNat, Nat.mod_eq_of_lt ha, Nat.mod_eq_of_lt hb]
  exact wrap_u k hk (Nat.and_lt_two_pow _ hb)

theorem or_u (k : IntKind) (hk : k.signed = false) {a b : Nat} (ha : a < 2 ^ k.bits) (hb : b < 2 ^ k.bits) :
    k.wrap (BitVec.ofInt k.bits (a : Int) ||| BitVec.ofInt k.bits (b : Int)).toNat = ((a ||| b : Nat) : Int) := by
  rw [BitVec.ofInt_natCast, BitVec.ofInt_natCast, BitVec.toNat_or, BitVec.toNat_ofNat, BitVec.toNat_ofNat, Nat.mod_eq_of_lt ha, Nat.mod_eq_of_lt hb]
  exact wrap_u k hk (Nat.or_lt_two_pow ha hb)

theorem fdiv_nat (a b : Nat) : Int.fdiv (a : Int) (b : Int) = ((a / b : Nat) : Int) := by
  simp [Int.fdiv_eq_ediv_of_nonneg]

end Go.Am

namespace Go.Am
open Go

def u8 (c : UInt8) : Value := .int .u8 (c.toNat : Nat)

theorem nextslicecap_le {need cap : Nat} (h : cap < need) : Builtin.nextslicecap need cap ≤ 2 * need + 192 := by
  unfold Builtin.nextslicecap
  split
  · omega
  · split
    · omega
    · have key : ∀ r c, c < need → Builtin.growBy need r c ≤ 2 * need + 192 := by
        intro r
        induction r with
        | zero => intro c hc; simp only [Builtin.growBy]; omega
        | succ r ih =>
          intro c hc
          simp only [Builtin.growBy]
          split
          · omega
          · by_cases h2 : c + (c + 768) / 4 < need
            · exact ih _ h2
            · cases r with
              | zero => simp only [Builtin.growBy]; omega
              | succ r => simp only [Builtin.growBy]; rw [if_pos (by omega)]; omega
      exact key 4 cap h

section rules
variable {P : Program} {F : Fr} {H : Heap} {d : Option Tmp} {ty : TypeId} {p : String} {af : Array Edge} {g : Option (Nat × Bool)} {ti te : TI} {K : Value → Heap → Prop} {T : Nat → Option TI}

def SrcOk (H : Heap) (size : Nat) (x : Value) (n : Nat) (news : List Value) : Prop :=
  (∃ c, x = .slice none n c ∧ n = 0 ∧ news = []) ∨
  (∃ b o c vs op wr i, x = .slice (some ⟨b, o, none⟩) n c ∧ At H b (.cells vs op wr) i ∧ (vs.drop o).take (n * size) = news ∧ news.length = n * size) ∨
  (∃ s, x = .string s ∧ n = s.size ∧ size = 1 ∧ news = s.data.toList.map u8) ∨
  (∃ a c, x = .slice (some a) 0 c ∧ n = 0 ∧ news = [])

theorem semR_loadCells {A : AHeap} (hA : SL A H) {b o m i : Nat} {vs cs : List Value} {op wr : Bool} (ha : At H b (.cells vs op wr) i) (hv : (vs.drop o).take m = cs) (hl : cs.length = m) :
    SemR P (loadCells ⟨b, o, none⟩ m) A cs.toArray := by
  intro w hw
  subst hl
  refine run_loadCells_list w ⟨b, o, none⟩ cs fun j v hj => ?_
  rw [addr_add]
  refine hA.cell hw ha ?_
  have hjl : j < cs.length := (List.getElem?_eq_some_iff.1 hj).1
  rw [← hv, List.getElem?_take_of_lt (by omega), List.getElem?_drop] at hj
  exact hj

theorem semR_firstCells {A : AHeap} (hA : SL A H) {size n : Nat} {x : Value} {news : List Value} (hx : SrcOk H size x n news) : SemR P (Builtin.firstCells size n x) A news.toArray := by
  rcases hx with ⟨c, rfl, rfl, rfl⟩ | ⟨b, o, c, vs, op, wr, i, rfl, ha, hv, hl⟩ | ⟨s, rfl, rfl, rfl, rfl⟩ | ⟨a, c, rfl, rfl, rfl⟩
  rotate_left 3
  · intro w _
    simp only [Builtin.firstCells, Nat.zero_mul]
    rfl
  · intro w _; rfl
  · exact semR_loadCells hA ha hv hl
  · intro w _
    have : s.extract 0 s.size = s := by
      obtain ⟨a⟩ := s
      apply ByteArray.ext
      have := Array.extract_size (xs := a)
      simpa [ByteArray.extract, ByteArray.copySlice, ByteArray.size] using this
    simp only [Builtin.firstCells, this]
    show Result.ok _ w = _
    congr 1
    apply Array.ext'
    simp [u8]

theorem semR_lenOf {A : AHeap} {size n : Nat} {x : Value} {news : List Value} (hx : SrcOk H size x n news) : SemR P (Builtin.lenOf x) A n := by
  rcases hx with ⟨c, rfl, rfl, rfl⟩ | ⟨b, o, c, vs, op, wr, i, rfl, ha, hv, hl⟩ | ⟨s, rfl, rfl, rfl, rfl⟩ | ⟨a, c, rfl, rfl, rfl⟩ <;> intro w _ <;> rfl

def isSrcD (d : TypeDesc) : Prop := d = .string ∨ ∃ e, d = .slice e

def appCore (inf : TypeInfo) (z : Value) (e : TypeId) (base : Option Addr) (sLen sCap : Nat) (vy : Value) (n : Nat) : Sem Value :=
  if sLen + n ≤ sCap then do
    let new ← Builtin.firstCells inf.size n vy
    match base with
    | some a => do storeCells (a.add (sLen * inf.size)) new.toList; pure (.slice base (sLen + n) sCap)
    | none => pure (.slice base (sLen + n) sCap)
  else do
    let newCap ← choose (.appendCap (sLen + n) sCap e)
    askRoom (newCap * inf.bytes)
    let old ← Builtin.firstCells inf.size sLen (.slice base sLen sCap)
    let new ← Builtin.firstCells inf.size n vy
    let r ← newObj (.cells (old ++ new ++ Builtin.zeroCells z.cells (newCap - (sLen + n))) e)
    pure (.slice (some ⟨r, 0, none⟩) (sLen + n) newCap)

theorem append_core {sT xT e : TypeId} {tx : TI} {base : Option Addr} {sLen sCap n : Nat} {vy : Value} {inf : TypeInfo} {z : Value} {w : World}
    (hu : P.underlying sT = some (.slice e)) (hxu : P.underlying xT = some tx.desc) (hnz : isSrcD tx.desc) (hi : P.info? e = some inf) (hzz : inf.zero = some z) (hlen : (Builtin.lenOf vy).run P w = .ok n w)
    (hneed : (sLen + n : Nat) ≤ 2 ^ 48) (hbig : sCap < sLen + n → Builtin.nextslicecap (sLen + n) sCap * inf.bytes ≤ 2 ^ 48) :
    (Builtin.append_ #[sT, xT] ty #[.slice base sLen sCap, vy]).run P w = (appCore inf z e base sLen sCap vy n).run P w := by
  have key : ∀ dd, P.underlying xT = some dd → isSrcD dd → (Builtin.append_ #[sT, xT] ty #[.slice base sLen sCap, vy]).run P w = (appCore inf z e base sLen sCap vy n).run P w := by
    intro dd hd hs
    have h0 : ¬ (9223372036854775807 : Int) < (sLen : Int) + n := by omega
    rcases hs with rfl | ⟨e', rfl⟩
    · by_cases hc : sLen + n ≤ sCap
      · cases base <;> simp [Builtin.append_, appCore, underlying, hu, sizeOf, typeInfo, hi, hd, hlen, hc]
      · have hb := hbig (by omega)
        have hb' : ¬ (281474976710656 < Builtin.nextslicecap (sLen + n) sCap * inf.bytes) := by omega
        simp [Builtin.append_, appCore, underlying, hu, sizeOf, typeInfo, hi, hd, hlen, hc, zeroValue, hzz, newRow, hb', h0]
    · by_cases hc : sLen + n ≤ sCap
      · cases base <;> simp [Builtin.append_, appCore, underlying, hu, sizeOf, typeInfo, hi, hd, hlen, hc]
      · have hb := hbig (by omega)
        have hb' : ¬ (281474976710656 < Builtin.nextslicecap (sLen + n) sCap * inf.bytes) := by omega
        simp [Builtin.append_, appCore, underlying, hu, sizeOf, typeInfo, hi, hd, hlen, hc, zeroValue, hzz, newRow, hb', h0]
  exact key _ hxu hnz

theorem semA_appendCap {A : AHeap} (need cap : Nat) (e : TypeId) : SemA P (choose (.appendCap need cap e)) A (fun nc A' => A' = A ∧ ∃ sp, nc = need + sp) := by
  refine SemA.of_wp ?_
  simp only [choose, wpA, Question.forced, Bool.false_eq_true, if_false]
  intro t
  exact ⟨trivial, _, rfl⟩

theorem semA_askRoom {A : AHeap} (n : Nat) : SemA P (askRoom n) A (fun _ A' => A' = A) := by
  refine SemA.of_wp ?_
  unfold askRoom
  split
  · simp only [mark, wpA]
  · exact rfl

theorem SemR.semA {α : Type} {s : Sem α} {A : AHeap} {a : α} (h : SemR P s A a) : SemA P s A (fun x A' => A' = A ∧ x = a) := h.sem ⟨rfl, rfl⟩

theorem zeroCells_rep (z : List Value) (v : Value) (hz : v.cells.toList = z) (n : Nat) : (Builtin.zeroCells v.cells n).toList = rep z n := by
  have := range_zero z n
  rw [← this]
  subst hz
  simp [Builtin.zeroCells]

/-- append of what lies apart: in place, or into a new row -/
theorem OtherP.append {x y : Operand} {sT xT e : TypeId} {tx : TI} {base : Option Addr} {sLen sCap n : Nat} {vy : Value} {news olds : List Value}
    (hs : TiSpec P sT ti) (hds : ti.desc = .slice e) (he : TiSpec P e te) (hxT : TiSpec P xT tx) (hnz : isSrcD tx.desc)
    (hx : opv F x = some (.slice base sLen sCap)) (hy : opv F y = some vy) (hsrc : SrcOk H te.size vy n news) (hpos : 0 < te.bytes)
    (hbig : (2 * (sLen + n) + 192) * te.bytes ≤ 2 ^ 48)
    (hin : sLen + n ≤ sCap → (base = none ∧ K (.slice none (sLen + n) sCap) H) ∨
      ∃ b o vs vs' op H', base = some ⟨b, o, none⟩ ∧ SetN vs (o + sLen * te.size) news vs' ∧ news.all (·.oneCell') = true ∧ Upd H b (.cells vs op true) (.cells vs' op true) H' ∧ K (.slice base (sLen + n) sCap) H')
    (hout : sCap < sLen + n → SrcOk H te.size (.slice base sLen sCap) sLen olds ∧ ∀ b sp, K (.slice (some ⟨b, 0, none⟩) (sLen + n) (sLen + n + sp)) ((b, .cells (olds ++ news ++ rep te.zero sp) false true) :: H)) :
    OtherP P ⟨d, .call { callee := .builtin .append, args := #[x, y], argTypes := #[sT, xT] }, ty, p, af, g⟩ F H K := by
  refine ⟨fun A t hF hA => ?_⟩
  unfold opA
  have hev : execOp (Act.eval ⟨t, []⟩) ⟨d, .call { callee := .builtin .append, args := #[x, y], argTypes := #[sT, xT] }, ty, p, af, g⟩ = (do pure (.value (← Builtin.append_ #[sT, xT] ty #[.slice base sLen sCap, vy]))) := by
    simp only [execOp, resolve]
    simp [opv_eval hF hx, opv_eval hF hy, invoke, builtin]
  rw [hev]
  obtain ⟨inf, z, hi, hsz, hzz, hzc⟩ := he.info
  obtain ⟨inf', hi', hby⟩ := he.bytes
  rw [hi] at hi'; obtain rfl := Option.some.inj hi'
  have hu := hs.und
  rw [hds] at hu
  have hxu := hxT.und
  have hbound : sLen + n ≤ 2 ^ 48 := by
    have : (2 * (sLen + n) + 192) * 1 ≤ (2 * (sLen + n) + 192) * te.bytes := Nat.mul_le_mul_left _ hpos
    omega
  have core : SemA P (appCore inf z e base sLen sCap vy n) A (fun v A' => ∃ H', SL A' H' ∧ KF A H A' H' ∧ K v H') := by
    have hfc := semR_firstCells (P := P) hA hsrc
    rw [← hsz] at hfc
    unfold appCore
    split
    · rename_i hcap
      rcases hin hcap with ⟨rfl, hk⟩ | ⟨b, o, vs, vs', op, H', rfl, hset, h1, hup, hk⟩
      · exact hfc.semA.bind fun _ A' _ ⟨h1, _⟩ => by subst h1; exact SemA.of_wp ⟨H, hA, .refl _ _, hk⟩
      · obtain ⟨i, ha, rfl⟩ := hup.at
        have h2 := hset.eq
        refine hfc.semA.bind fun c A' _ ⟨hA', hc⟩ => ?_
        subst hA'; subst hc
        show SemA P (do storeCells (Addr.add ⟨b, o, none⟩ (sLen * inf.size)) news.toArray.toList; pure (Value.slice (some ⟨b, o, none⟩) (sLen + n) sCap)) _ _
        rw [addr_add, hsz]
        refine SemA.of_wp ?_
        rw [wpA_bind]
        refine wpA_storeCells news vs 0 A' (hA.at ha) (fun h => by simpa using h2.2 h) h1 ?_
        rw [Nat.add_zero, h2.1]
        obtain ⟨k1, k2⟩ := hA.set ha (.cells vs' op true)
        exact ⟨_, k1, k2, hk⟩
    · rename_i hcap
      obtain ⟨hsrc2, hk⟩ := hout (by omega)
      have hfc2 := semR_firstCells (P := P) hA hsrc2
      rw [← hsz] at hfc2
      refine (semA_appendCap _ _ _).bind fun nc A1 _ ⟨h1, sp, hsp⟩ => ?_
      subst h1; subst hsp
      refine (semA_askRoom _).bind fun _ A1 _ h1 => ?_
      subst h1
      refine hfc2.semA.bind fun c A1 _ ⟨h1, h2⟩ => ?_
      subst h1; subst h2
      refine hfc.semA.bind fun c A1 _ ⟨h1, h2⟩ => ?_
      subst h1; subst h2
      refine SemA.of_wp ?_
      simp only [newObj, wpA_bind, wpA]
      have hcells : AObj.of (.cells (olds.toArray ++ news.toArray ++ Builtin.zeroCells z.cells (sLen + n + sp - (sLen + n))) e) = .cells (olds ++ news ++ rep te.zero sp) false true := by
        rw [of_new]
        have := zeroCells_rep te.zero z hzc sp
        simp [this]
      rw [hcells]
      obtain ⟨k1, k2⟩ := hA.push (.cells (olds ++ news ++ rep te.zero sp) false true)
      exact ⟨_, k1, k2, hk _ _⟩
  intro w hw
  obtain ⟨v, A', w', hr, h1, h2, h3⟩ := core w hw
  refine ⟨.value v, A', w', ?_, h1, h2, h3⟩
  have hlen := semR_lenOf (P := P) (A := A) hsrc w hw
  have hrun := append_core (P := P) (ty := ty) (sT := sT) (xT := xT) (e := e) (tx := tx) (base := base) (sLen := sLen) (sCap := sCap) (n := n) (vy := vy) (inf := inf) (z := z) (w := w) hu hxu hnz hi hzz hlen hbound (fun hlt => by
    have := Nat.mul_le_mul_right inf.bytes (nextslicecap_le hlt)
    rw [hby] at this ⊢
    omega)
  rw [Sem.run_bind, hrun, hr]
  rfl

end rules
end Go.Am

namespace Go.Am
open Go

abbrev BS := List UInt8
def S (l : BS) : Value := .string ⟨l.toArray⟩

theorem string_S (s : ByteArray) : Value.string s = S s.data.toList := by simp [S]
theorem size_S (l : BS) : (ByteArray.mk l.toArray).size = l.length := by simp [ByteArray.size]

section rules
variable {P : Program} {F : Fr} {H : Heap} {d : Option Tmp} {ty : TypeId} {p : String} {af : Array Edge} {g : Option (Nat × Bool)} {ti te : TI} {K : Value → Heap → Prop} {T : TypeId} {Kr : Sem Next → Value → Prop}

theorem OtherP.toBytes {x : Operand} {src dst e : TypeId} {ts td : TI} {s : BS} (hs : TiSpec P src ts) (hss : ts.desc = .string) (hd : TiSpec P dst td) (hdd : td.desc = .slice e) (he : TiSpec P e te) (hde : te.desc = .int .u8)
    (hx : opv F x = some (S s)) (hk : ∀ b sp, K (.slice (some ⟨b, 0, none⟩) s.length (s.length + sp)) ((b, .cells (s.map u8 ++ List.replicate sp (.int .u8 0)) false false) :: H)) :
    OtherP P ⟨d, .convert src dst x, ty, p, af, g⟩ F H K := by
  refine ⟨opS_of_wp (s := do pure (.value (← convert src dst (S s)))) (fun t hF => by simp only [execOp, opv_eval hF hx]) fun A hH => ?_⟩
  have h1 := hs.und
  rw [hss] at h1
  have h2 := hd.und
  rw [hdd] at h2
  have h3 := he.und
  rw [hde] at h3
  simp only [convert, S, underlying, program, wpA_bind, wpA_pure, wpA, h1, h2, h3, Conv.stringToBytes, choose, newRow, newObj, markStringish, shape, freeze]
  simp only [Question.forced, Bool.false_eq_true, if_false, Question.cut]
  intro t
  have hc : ∀ sp, (AObj.of (.cells (Array.map (fun (b : UInt8) => Value.int .u8 (b.toNat : Int)) s.toArray ++ Array.replicate sp (.int .u8 0)) e)) = .cells (s.map u8 ++ List.replicate sp (.int .u8 0)) false true := fun sp => by
    rw [of_new]; simp [u8]
  have hsz : (ByteArray.mk s.toArray).size + t % (2 ^ 63 - (ByteArray.mk s.toArray).size) - (ByteArray.mk s.toArray).size = t % (2 ^ 63 - (ByteArray.mk s.toArray).size) := by omega
  rw [hsz, hc]
  have hget : (A.push (.cells (s.map u8 ++ List.replicate (t % (2 ^ 63 - (ByteArray.mk s.toArray).size)) (.int .u8 0)) false true)).get A.next = .cells (s.map u8 ++ List.replicate (t % (2 ^ 63 - (ByteArray.mk s.toArray).size)) (.int .u8 0)) false true := by
    simp [AHeap.push]
  simp only [hget]
  intro e' n hn _
  refine ⟨_, rfl, ?_⟩
  have hps : ∀ x y, (A.push x).set A.next y = A.push y := fun x y => by
    simp only [AHeap.push, AHeap.set, AHeap.mk.injEq, and_true]
    funext i
    by_cases hi : i = A.next <;> simp [hi]
  rw [hps]
  obtain ⟨k1, k2⟩ := hH.push (.cells (s.map u8 ++ List.replicate (t % (2 ^ 63 - (ByteArray.mk s.toArray).size)) (.int .u8 0)) false false)
  refine .inr ⟨_, rfl, _, k1, k2, ?_⟩
  have := hk A.next (t % (2 ^ 63 - (ByteArray.mk s.toArray).size))
  rw [size_S]
  rw [size_S] at this
  exact this

theorem foldl_push_bytes : ∀ (xs : BS) (s : ByteArray), (xs.map fun c => ((c.toNat : Nat) : Int)).foldl (fun (r : ByteArray) n => r.push (UInt8.ofNat n.toNat)) s = ⟨s.data ++ xs.toArray⟩ := by
  intro xs
  induction xs with
  | nil => intro s; simp
  | cons x xs ih =>
    intro s
    simp only [List.map_cons, List.foldl_cons]
    rw [ih]
    simp [ByteArray.push]

theorem OtherR.toString {x : Operand} {src dst e : TypeId} {ts td : TI} {xs : BS} {v : Value} (hs : TiSpec P src ts) (hss : ts.desc = .slice e) (hd : TiSpec P dst td) (hdd : td.desc = .string) (he : TiSpec P e te) (hde : te.desc = .int .u8)
    (hx : opv F x = some v) (hv : SrcOk H 1 v xs.length (xs.map u8)) (hnv : ∀ s, v ≠ .string s) (hk : ∀ s, Kr s (S xs)) :
    OtherR P ⟨d, .convert src dst x, ty, p, af, g⟩ F H Kr := by
  refine ⟨do pure (.value (← convert src dst v)), S xs, ⟨fun t hF => by simp only [execOp, opv_eval hF hx], fun A hH w hw => ?_⟩, hk _⟩
  have h1 := hs.und
  rw [hss] at h1
  have h2 := hd.und
  rw [hdd] at h2
  have h3 := he.und
  rw [hde] at h3
  rcases hv with ⟨c, rfl, hn, hnews⟩ | ⟨b, o, c, vs, op, wr, i, rfl, ha, hv, hl⟩ | ⟨s, rfl, _⟩ | ⟨a, c, rfl, hn, hnews⟩
  · rw [Sem.run_bind, run_convert_bytes_string w src dst e none _ c h1 h3 h2]
    have : xs = [] := by simpa using hn
    subst this
    rfl
  · rw [Sem.run_bind, run_convert_bytes_string w src dst e _ _ c h1 h3 h2]
    have hlc := semR_loadCells (P := P) hH ha hv hl w hw
    rw [Nat.mul_one] at hlc
    rw [run_bytesToString w ⟨b, o, none⟩ xs.length c (xs.map fun c => ((c.toNat : Nat) : Int)) (by rw [hlc]; simp [u8]), foldl_push_bytes]
    simp [S, Result.andThen]
  · exact absurd rfl (hnv s)
  · rw [Sem.run_bind, run_convert_bytes_string w src dst e _ _ c h1 h3 h2]
    have : xs = [] := by simpa using hn
    subst this
    rw [run_bytesToString w a 0 c [] rfl]
    rfl

/-- a bound of a piece -/
def boundS (F : Fr) (x : Option Operand) (dflt n : Nat) : Prop :=
  match x with
  | none => n = dflt
  | some x => ∃ k, opv F x = some (.int k n)

theorem boundS.run {t : Array Value} {F : Fr} (hF : TR F t) {x : Option Operand} {dflt n : Nat} (h : boundS F x dflt n) : (x.map (Act.mk t []).eval = none ∧ n = dflt) ∨ ∃ k : IntKind, x.map (Act.mk t []).eval = some (.int k n) := by
  cases x with
  | none => exact .inl ⟨rfl, h⟩
  | some x => obtain ⟨k, hk⟩ := h; exact .inr ⟨k, by simp [opv_eval hF hk]⟩

theorem run_sliceBound {x : IntKind} {l y : Nat} {c : BoundsCode} {w : World} (h : l ≤ y) : (Instr.sliceBound (.int x l) y c).run P w = .ok l w := by
  have : (l : Int) ≤ y := by omega
  simp [Instr.sliceBound, asIntOf, this]

theorem run_sliceBounds {t : Array Value} (hF : TR F t) {isS : Bool} {len cap l h m : Nat} {lo hi mx : Option Operand} {w : World} (hl : boundS F lo 0 l) (hh : boundS F hi len h) (hm : boundS F mx cap m) (hnm : mx.isSome = true → hi.isSome = true)
    (h1 : l ≤ h) (h2 : h ≤ m) (h3 : m ≤ cap) : (Instr.sliceBounds isS len cap (lo.map (Act.mk t []).eval) (hi.map (Act.mk t []).eval) (mx.map (Act.mk t []).eval)).run P w = .ok (l, h, m) w := by
  have hh0 := hh
  rcases hl.run hF with ⟨e1, rfl⟩ | ⟨k1, e1⟩ <;> rcases hh.run hF with ⟨e2, rfl⟩ | ⟨k2, e2⟩ <;> rcases hm.run hF with ⟨e3, rfl⟩ | ⟨k3, e3⟩ <;>
    first
    | (exfalso; cases mx <;> cases hi <;> simp at e2 e3 hnm; done)
    | (rw [e1, e2, e3]; simp [Instr.sliceBounds, run_sliceBound, h1, h2, h3])

theorem OtherR.slice {x : Operand} {lo hi mx : Option Operand} {a : Option Addr} {len cap l h m : Nat} {e : TypeId} (hT : TiSpec P T ti) (hds : ti.desc = .slice e) (hx : opv F x = some (.slice a len cap))
    (hl : boundS F lo 0 l) (hh : boundS F hi len h) (hm : boundS F mx cap m) (hnm : mx.isSome = true → hi.isSome = true) (h1 : l ≤ h) (h2 : h ≤ m) (h3 : m ≤ cap)
    (hk : ∀ s, Kr s (.slice (if m = l then a else a.map (·.add (l * ti.esz))) (h - l) (m - l))) : OtherR P ⟨d, .slice T x lo hi mx, ty, p, af, g⟩ F H Kr := by
  have hu := hT.und
  rw [hds] at hu
  have he := hT.elem
  rw [hds] at he
  simp only [elemD, elemTI] at he
  split at he
  · rename_i ei ed hei hd
    simp only [Option.some.injEq, Prod.mk.injEq] at he
    refine ⟨do pure (.value (← Instr.sliceAt T (.slice a len cap) (lo.map fun o => (opv F o).getD undef) (hi.map fun o => (opv F o).getD undef) (mx.map fun o => (opv F o).getD undef))), _, ⟨fun t hF => ?_, fun A hH w hw => ?_⟩, hk _⟩
    · have hmap : ∀ {o : Option Operand} {q n : Nat}, boundS F o q n → o.map (Act.mk t []).eval = o.map fun o => (opv F o).getD undef := fun {o q n} hb => by
        cases o with
        | none => rfl
        | some o => obtain ⟨k, hk⟩ := hb; simp [opv_eval hF hk, hk]
      simp only [execOp, opv_eval hF hx, hmap hl, hmap hh, hmap hm]
    · have hrun : ∀ {o : Option Operand} {q n : Nat}, boundS F o q n → ((o.map fun o => (opv F o).getD undef) = none ∧ n = q) ∨ ∃ k : IntKind, (o.map fun o => (opv F o).getD undef) = some (.int k n) := fun {o q n} hb => by
        cases o with
        | none => exact .inl ⟨rfl, hb⟩
        | some o => obtain ⟨k, hk⟩ := hb; exact .inr ⟨k, by simp [hk]⟩
      have hb : (Instr.sliceBounds true len cap (lo.map fun o => (opv F o).getD undef) (hi.map fun o => (opv F o).getD undef) (mx.map fun o => (opv F o).getD undef)).run P w = .ok (l, h, m) w := by
        rcases hrun hl with ⟨e1, rfl⟩ | ⟨k1, e1⟩ <;> rcases hrun hh with ⟨e2, rfl⟩ | ⟨k2, e2⟩ <;> rcases hrun hm with ⟨e3, rfl⟩ | ⟨k3, e3⟩ <;>
          first
          | (exfalso; cases mx <;> cases hi <;> simp at e2 e3 hnm; done)
          | (rw [e1, e2, e3]; simp [Instr.sliceBounds, run_sliceBound, h1, h2, h3])
      rw [← he.1]
      simp [Instr.sliceAt, Instr.slice, underlying, hu, hb, sizeOf, typeInfo, hei]
  · cases he

end rules
end Go.Am

namespace Go.Am
open Go

/-- a map's entries: key, element, when it came -/
abbrev Ent := BS × Value × Nat
def entOf (e : Ent) : MapEntry := { key := S e.1, val := e.2.1, born := e.2.2 }
def mapObj (l : List Ent) (clock : Nat) : Obj := .map (l.map entOf).toArray clock

def lfind (l : List Ent) (k : BS) (i : Nat := 0) : Option (Nat × Value) :=
  match l with
  | [] => none
  | e :: l => if k = e.1 then some (i, e.2.1) else lfind l k (i + 1)

def lget (l : List Ent) (k : BS) : Option Value := (lfind l k).map (·.2)

theorem S_beq (a b : BS) : (ByteArray.mk a.toArray == ByteArray.mk b.toArray) = decide (a = b) := by
  have h : (ByteArray.mk a.toArray == ByteArray.mk b.toArray) = (a.toArray == b.toArray) := rfl
  rw [h]
  by_cases h : a = b
  · subst h; simp
  · rw [decide_eq_false h]
    simpa using h

theorem findNow_eq (k : BS) : ∀ (l : List Ent) (i : Nat), Instr.findNow .string (S k) (l.map entOf) i = some (lfind l k i) := by
  intro l
  induction l with
  | nil => intro i; rfl
  | cons e l ih =>
    intro i
    simp only [List.map_cons, Instr.findNow, lfind]
    have : Instr.sameNow .string (S k) (entOf e).key = some (decide (k = e.1)) := by
      simp only [Instr.sameNow, S, entOf, S_beq]
    rw [this]
    by_cases h : k = e.1
    · simp only [h, decide_true, if_true]; rfl
    · simp only [h, decide_false, if_false]; exact ih _

section rules
variable {P : Program} {F : Fr} {H : Heap} {d : Option Tmp} {ty : TypeId} {p : String} {af : Array Edge} {g : Option (Nat × Bool)} {ti te : TI} {K : Value → Heap → Prop} {T : TypeId} {Kr : Sem Next → Value → Prop}

theorem run_checkKey {kt : TypeId} {b : Bool} {k : BS} {w : World} (hk : P.underlying kt = some .string) : (Instr.checkKey b 10000 kt (S k)).run P w = .ok () w := by
  show (Instr.checkKey b (9999 + 1) kt (S k)).run P w = _
  unfold Instr.checkKey
  simp [underlying, hk, S]

theorem run_findKey {kt : TypeId} {k : BS} {l : List Ent} {w : World} (hk : P.underlying kt = some .string) : (Instr.findKey kt (S k) (l.map entOf)).run P w = .ok (lfind l k) w := by
  simp [Instr.findKey, underlying, hk, findNow_eq]

/-- a map that is there, or not -/
def MapIn (H : Heap) (v : Value) (l : List Ent) : Prop :=
  (v = .map none ∧ l = []) ∨ ∃ r c wr i, v = .map (some r) ∧ At H r (.obj (mapObj l c) wr) i

def zeroV (ti : TI) : Value := if ti.agg then .agg ti.zero.toArray else ti.zero.headD undef

theorem zero_eq {t : TypeId} {z : Value} {inf : TypeInfo} (hz : inf.zero = some z) (hc : z.cells.toList = ti.zero) (hag : (∃ cs, z = .agg cs) ↔ ti.agg = true) : z = zeroV ti := by
  unfold zeroV
  cases z with
  | agg cs =>
    have : ti.agg = true := hag.1 ⟨cs, rfl⟩
    rw [if_pos this, ← hc]; rfl
  | _ =>
    have : ¬ ti.agg = true := fun h => by obtain ⟨cs, h⟩ := hag.2 h; cases h
    rw [if_neg this, ← hc]; rfl

def lookV (ok : Bool) (l : List Ent) (k : BS) (z : Value) : Value :=
  match ok with
  | true => .tuple #[(lget l k).getD z, .bool (lget l k).isSome]
  | false => (lget l k).getD z

theorem OtherR.lookup {x y : Operand} {kt et : TypeId} {tk : TI} {v z : Value} {l : List Ent} {k : BS} {ok : Bool} (hT : TiSpec P T ti) (hds : ti.desc = .map kt et) (hk : TiSpec P kt tk) (hdk : tk.desc = .string)
    (hz : (P.info? et).bind (·.zero) = some z) (hx : opv F x = some v) (hy : opv F y = some (S k)) (hm : MapIn H v l)
    (hK : ∀ s, Kr s (lookV ok l k z)) : OtherR P ⟨d, .lookup T x y ok, ty, p, af, g⟩ F H Kr := by
  refine ⟨do pure (.value (← Instr.lookup T v (S k) ok)), _, ⟨fun t hF => by simp only [execOp, opv_eval hF hx, opv_eval hF hy], fun A hH w hw => ?_⟩, hK _⟩
  have hu := hT.und
  rw [hds] at hu
  have hku := hk.und
  rw [hdk] at hku
  obtain ⟨inf, hi, hzz⟩ := Option.bind_eq_some_iff.1 hz
  have hrun : (Instr.lookup T v (S k) ok).run P w = .ok (lookV ok l k z) w := by
    rcases hm with ⟨rfl, rfl⟩ | ⟨r, c, wr, i, rfl, ha⟩
    · have hck := run_checkKey (b := true) (k := k) (w := w) hku
      have hfk := run_findKey (k := k) (l := []) (w := w) hku
      simp only [List.map_nil, lfind] at hfk
      cases ok <;> simp [Instr.lookup, underlying, hu, hck, hfk, zeroValue, typeInfo, hi, hzz, lget, lfind, lookV]
    · obtain ⟨hg, _, _⟩ := hw.obj _ _ _ (hH.at ha)
      have hck := fun b => run_checkKey (b := b) (k := k) (w := w) hku
      have hfk := run_findKey (k := k) (l := l) (w := w) hku
      have hgo : (getObj r).run P w = .ok (mapObj l c) w := by
        simp only [getObj, Sem.run, hg, mapObj]
      cases hf : lfind l k with
      | none =>
        rw [hf] at hfk
        cases ok <;> simp [Instr.lookup, underlying, hu, hck, hfk, zeroValue, typeInfo, hi, hzz, lget, hf, hgo, mapObj, lookV]
      | some iv =>
        rw [hf] at hfk
        obtain ⟨iv1, iv2⟩ := iv
        cases ok <;> simp [Instr.lookup, underlying, hu, hck, hfk, lget, hf, hgo, mapObj, lookV]
  rw [Sem.run_bind, hrun]
  rfl

theorem OtherR.lenMap {x : Operand} {kt et : TypeId} {v : Value} {l : List Ent} (hT : TiSpec P T ti) (hds : ti.desc = .map kt et) (hx : opv F x = some v) (hm : MapIn H v l) (hK : ∀ s, Kr s (.int .i64 (l.length : Nat))) :
    OtherR P ⟨d, .call { callee := .builtin .len, args := #[x], argTypes := #[T] }, ty, p, af, g⟩ F H Kr := by
  refine ⟨do pure (.value (← Builtin.len_ #[T] ty #[v])), _, ⟨fun t hF => ?_, fun A hH w hw => ?_⟩, hK _⟩
  · simp only [execOp, resolve]
    simp [opv_eval hF hx, invoke, builtin]
  · have hu := hT.und
    rw [hds] at hu
    rcases hm with ⟨rfl, rfl⟩ | ⟨r, c, wr, i, rfl, ha⟩
    · simp [Builtin.len_, underlying, hu, goInt]
    · obtain ⟨hg, _, _⟩ := hw.obj _ _ _ (hH.at ha)
      have hgo : (getObj r).run P w = .ok (mapObj l c) w := by
        simp only [getObj, Sem.run, hg, mapObj]
      simp [Builtin.len_, underlying, hu, goInt, hgo, mapObj]

theorem OtherP.makeMap (hk : ∀ b, K (.map (some b)) ((b, .obj (mapObj [] 0) true) :: H)) : OtherP P ⟨d, .makeMap T none, ty, p, af, g⟩ F H K := by
  refine ⟨opS_of_wp (s := do pure (.value (← Instr.makeMap T none))) (fun t hF => by simp only [execOp, Option.map_none]) fun A hH => ?_⟩
  simp only [Instr.makeMap, newObj, wpA_bind, wpA_pure]
  simp only [wpA, wpA_pure, AObj.of]
  obtain ⟨k1, k2⟩ := hH.push (.obj (mapObj [] 0) true)
  exact .inr ⟨_, rfl, _, k1, k2, hk _⟩

def lset : List Ent → BS → Value → List Ent
  | [], _, _ => []
  | e :: l, k, v => if k = e.1 then (k, v, e.2.2) :: l else e :: lset l k v

def lput (l : List Ent) (c : Nat) (k : BS) (v : Value) : List Ent × Nat :=
  if (lfind l k).isSome then (lset l k v, c) else (l ++ [(k, v, c)], c + 1)

theorem lfind_succ (k : BS) : ∀ (l : List Ent) (i : Nat), lfind l k i = (lfind l k).map fun x => (x.1 + i, x.2) := by
  intro l
  induction l with
  | nil => intro i; rfl
  | cons e l ih =>
    intro i
    simp only [lfind]
    split
    · simp
    · rw [ih (i + 1), ih (0 + 1)]
      cases lfind l k <;> simp; omega

theorem modify_lset (k : BS) (v : Value) : ∀ (l : List Ent) (i : Nat) (u : Value), lfind l k = some (i, u) →
    ((l.map entOf).modify i fun e => { e with key := S k, val := v }) = (lset l k v).map entOf ∧ ∃ e, l[i]? = some e ∧ e.1 = k := by
  intro l
  induction l with
  | nil => intro i u h; cases h
  | cons e l ih =>
    intro i u h
    simp only [lfind] at h
    split at h
    · rename_i he
      simp only [Option.some.injEq, Prod.mk.injEq] at h
      obtain ⟨rfl, rfl⟩ := h
      refine ⟨?_, e, rfl, he.symm⟩
      simp only [List.map_cons, List.modify_zero_cons, lset]
      rw [if_pos he]
      rfl
    · rename_i he
      rw [lfind_succ] at h
      obtain ⟨⟨j, u'⟩, hj, he'⟩ := Option.map_eq_some_iff.1 h
      simp only [Prod.mk.injEq] at he'
      obtain ⟨rfl, rfl⟩ := he'
      obtain ⟨h1, e', h2, h3⟩ := ih j u' hj
      refine ⟨?_, e', by simpa using h2, h3⟩
      simp only [List.map_cons, lset]
      rw [if_neg he]
      simp only [Nat.zero_add, List.modify_succ_cons, h1, List.map_cons]

theorem OtherP.mapUpdate {x y z : Operand} {kt et : TypeId} {tk : TI} {v : Value} {l : List Ent} {k : BS} {r c : Nat} {H' : Heap} (hT : TiSpec P T ti) (hds : ti.desc = .map kt et) (hk : TiSpec P kt tk) (hdk : tk.desc = .string)
    (hx : opv F x = some (.map (some r))) (hy : opv F y = some (S k)) (hz : opv F z = some v) (hup : Upd H r (.obj (mapObj l c) true) (.obj (mapObj (lput l c k v).1 (lput l c k v).2) true) H')
    (hK : K undef H') : OtherP P ⟨d, .mapUpdate T x y z, ty, p, af, g⟩ F H K := by
  refine ⟨fun A t hF hA => ?_⟩
  unfold opA
  have hev : execOp (Act.eval ⟨t, []⟩) ⟨d, .mapUpdate T x y z, ty, p, af, g⟩ = (do Instr.mapUpdate T (.map (some r)) (S k) v; pure .skip) := by
    simp only [execOp, opv_eval hF hx, opv_eval hF hy, opv_eval hF hz]
  rw [hev]
  have hu := hT.und
  rw [hds] at hu
  have hku := hk.und
  rw [hdk] at hku
  obtain ⟨i, ha, rfl⟩ := hup.at
  have hset : SemA P (setObj r (mapObj (lput l c k v).1 (lput l c k v).2)) A (fun _ A' => A' = A.set r (.obj (mapObj (lput l c k v).1 (lput l c k v).2) true)) := by
    refine SemA.of_wp ?_
    simp only [setObj, wpA]
    exact ⟨_, hA.at ha, rfl, trivial⟩
  intro w hw
  obtain ⟨u, A', w', hr, hA', hsame, rfl⟩ := hset w hw
  obtain ⟨k1, k2⟩ := hA.set ha (.obj (mapObj (lput l c k v).1 (lput l c k v).2) true)
  refine ⟨.skip, _, w', ?_, hA', hsame, _, k1, k2, hK⟩
  obtain ⟨hg, _, _⟩ := hw.obj _ _ _ (hA.at ha)
  have hgo : (getObj r).run P w = .ok (mapObj l c) w := by
    simp only [getObj, Sem.run, hg, mapObj]
  have hck := run_checkKey (b := false) (k := k) (w := w) hku
  have hfk := run_findKey (k := k) (l := l) (w := w) hku
  cases hf : lfind l k with
  | none =>
    rw [hf] at hfk
    have hput : lput l c k v = (l ++ [(k, v, c)], c + 1) := by simp [lput, hf]
    rw [hput] at hr
    have hobj : mapObj (l ++ [(k, v, c)]) (c + 1) = .map ((l.map entOf) ++ [({ key := S k, val := v, born := c } : MapEntry)]).toArray (c + 1) := by
      simp [mapObj, entOf]
    simp only [hobj] at hr
    simp [Instr.mapUpdate, underlying, hu, hck, hfk, hgo, mapObj, hr]
  | some iv =>
    obtain ⟨j, u'⟩ := iv
    rw [hf] at hfk
    have hput : lput l c k v = (lset l k v, c) := by simp [lput, hf]
    rw [hput] at hr
    obtain ⟨h1, e, h2, h3⟩ := modify_lset k v l j u' hf
    have hobj : mapObj (lset l k v) c = .map ((l.map entOf).toArray.modify j fun e => { e with key := S k, val := v }) c := by
      simp only [mapObj]
      congr 1
      apply Array.ext'
      simp [Array.toList_modify, ← h1]
    simp only [hobj] at hr
    have hkey : (Instr.keyThatStays (S k) (S k)).run P w = .ok (S k) w := by
      have : Instr.sameBits 10000 (S k) (S k) = true := by simp [Instr.sameBits, S, S_beq]
      simp [Instr.keyThatStays, this]
    have hold : Option.getD (Option.map ((fun x => x.key) ∘ entOf) l[j]?) (S k) = S k := by simp [h2, entOf, h3]
    have hobj2 : (l.map entOf).toArray.modify j (fun e => { key := S k, val := v, born := e.born }) = ((l.map entOf).modify j fun e => { key := S k, val := v, born := e.born }).toArray := by simp
    rw [hobj2] at hr
    simp [Instr.mapUpdate, underlying, hu, hck, hfk, hgo, mapObj, hold, hkey, hr]

end rules
end Go.Am

namespace Go.Am
open Go

theorem S_get {s : BS} {i : Nat} (h : i < s.length) : (ByteArray.mk s.toArray)[i]? = some s[i] := by
  have hs : i < (ByteArray.mk s.toArray).size := by rw [size_S]; exact h
  rw [ByteArray.getElem?_lt' _ _ hs]
  congr 1

theorem S_getI {s : BS} {i : Nat} (h : i < s.length) : (ByteArray.mk s.toArray)[(i : Int).toNat]? = some s[i] := by
  rw [Int.toNat_natCast]; exact S_get h

theorem toList_S (s : BS) : (ByteArray.mk s.toArray).toList = s := ByteArray.toList_mk s

theorem SetN.of_set : ∀ {vs : List Value} {n : Nat} {v : Value}, n < vs.length → SetN vs n [v] (vs.set n v) := by
  intro vs
  induction vs with
  | nil => intro n v h; simp at h
  | cons u vs ih =>
    intro n v h
    cases n with
    | zero => exact .here .nil
    | succ n => exact .there (ih (by simpa using h))

theorem SetN.of_setL : ∀ {cs vs : List Value} {n : Nat}, n + cs.length ≤ vs.length → SetN vs n cs (setL vs n cs) := by
  intro cs vs
  induction vs generalizing cs with
  | nil =>
    intro n h
    cases cs with
    | nil => exact .nil
    | cons c cs => simp at h
  | cons u vs ih =>
    intro n h
    cases cs with
    | nil => exact .nil
    | cons c cs =>
      cases n with
      | zero =>
        simp only [setL, List.set_cons_zero, setL_succ]
        exact .here (ih (by simp at h ⊢; omega))
      | succ n =>
        rw [setL_succ]
        exact .there (ih (by simp at h ⊢; omega))

section rules
variable {P : Program} {F : Fr} {H : Heap} {d : Option Tmp} {ty : TypeId} {p : String} {af : Array Edge} {g : Option (Nat × Bool)} {ti te : TI} {K : Value → Heap → Prop} {T : TypeId} {Kr : Sem Next → Value → Prop}

theorem boundRun {F : Fr} {o : Option Operand} {q n : Nat} (hb : boundS F o q n) : ((o.map fun o => (opv F o).getD undef) = none ∧ n = q) ∨ ∃ k : IntKind, (o.map fun o => (opv F o).getD undef) = some (.int k n) := by
  cases o with
  | none => exact .inl ⟨rfl, hb⟩
  | some o => obtain ⟨k, hk⟩ := hb; exact .inr ⟨k, by simp [hk]⟩

theorem boundMap {F : Fr} {t : Array Value} (hF : TR F t) {o : Option Operand} {q n : Nat} (hb : boundS F o q n) : o.map (Act.mk t []).eval = o.map fun o => (opv F o).getD undef := by
  cases o with
  | none => rfl
  | some o => obtain ⟨k, hk⟩ := hb; simp [opv_eval hF hk, hk]

theorem OtherR.sliceS {x : Operand} {lo hi : Option Operand} {s : BS} {l h : Nat} (hT : TiSpec P T ti) (hds : ti.desc = .string) (hx : opv F x = some (S s))
    (hl : boundS F lo 0 l) (hh : boundS F hi s.length h) (h1 : l ≤ h) (h2 : h ≤ s.length)
    (hk : ∀ m, Kr m (S ((s.drop l).take (h - l)))) : OtherR P ⟨d, .slice T x lo hi none, ty, p, af, g⟩ F H Kr := by
  have hu := hT.und
  rw [hds] at hu
  refine ⟨do pure (.value (← Instr.sliceAt T (S s) (lo.map fun o => (opv F o).getD undef) (hi.map fun o => (opv F o).getD undef) none)), _, ⟨fun t hF => ?_, fun A hH w hw => ?_⟩, hk _⟩
  · simp only [execOp, opv_eval hF hx, boundMap hF hl, boundMap hF hh, Option.map_none]
  · have hb : (Instr.sliceBounds false s.length s.length (lo.map fun o => (opv F o).getD undef) (hi.map fun o => (opv F o).getD undef) none).run P w = .ok (l, h, s.length) w := by
      rcases boundRun hl with ⟨e1, rfl⟩ | ⟨k1, e1⟩ <;> rcases boundRun hh with ⟨e2, rfl⟩ | ⟨k2, e2⟩ <;>
        (rw [e1, e2]; simp [Instr.sliceBounds, run_sliceBound, h1, h2])
    have hex : (ByteArray.mk s.toArray).extract l h = ByteArray.mk ((s.drop l).take (h - l)).toArray := by
      apply ByteArray.ext
      simp [ByteArray.extract, ByteArray.copySlice, ByteArray.size]
    simp only [Instr.sliceAt, S, Sem.run_bind]
    simp [underlying, hu, Instr.slice, size_S, hb, hex]

theorem OtherR.sliceArr {x : Operand} {lo hi mx : Option Operand} {b o len l h m : Nat} {e : TypeId} (hT : TiSpec P T ti) (hds : ti.desc = .array len e) (hx : opv F x = some (.pointer (some ⟨b, o, none⟩)))
    (hl : boundS F lo 0 l) (hh : boundS F hi len h) (hm : boundS F mx len m) (hnm : mx.isSome = true → hi.isSome = true) (h1 : l ≤ h) (h2 : h ≤ m) (h3 : m ≤ len)
    (hk : ∀ s, Kr s (.slice (some (if m = l then ⟨b, o, none⟩ else ⟨b, o + l * ti.esz, none⟩)) (h - l) (m - l))) : OtherR P ⟨d, .slice T x lo hi mx, ty, p, af, g⟩ F H Kr := by
  have hu := hT.und
  rw [hds] at hu
  have he := hT.elem
  rw [hds] at he
  simp only [elemD, elemTI] at he
  split at he
  · rename_i ei ed hei hd
    simp only [Option.some.injEq, Prod.mk.injEq] at he
    refine ⟨do pure (.value (← Instr.sliceAt T (.pointer (some ⟨b, o, none⟩)) (lo.map fun o => (opv F o).getD undef) (hi.map fun o => (opv F o).getD undef) (mx.map fun o => (opv F o).getD undef))), _, ⟨fun t hF => ?_, fun A hH w hw => ?_⟩, hk _⟩
    · simp only [execOp, opv_eval hF hx, boundMap hF hl, boundMap hF hh, boundMap hF hm]
    · have hb : (Instr.sliceBounds false len len (lo.map fun o => (opv F o).getD undef) (hi.map fun o => (opv F o).getD undef) (mx.map fun o => (opv F o).getD undef)).run P w = .ok (l, h, m) w := by
        rcases boundRun hl with ⟨e1, rfl⟩ | ⟨k1, e1⟩ <;> rcases boundRun hh with ⟨e2, rfl⟩ | ⟨k2, e2⟩ <;> rcases boundRun hm with ⟨e3, rfl⟩ | ⟨k3, e3⟩ <;>
          first
          | (exfalso; cases mx <;> cases hi <;> simp at e2 e3 hnm; done)
          | (rw [e1, e2, e3]; simp [Instr.sliceBounds, run_sliceBound, h1, h2, h3])
      rw [← he.1, ← addr_add]
      simp [Instr.sliceAt, underlying, hu, hb, sizeOf, typeInfo, hei, Instr.sureAddr]
  · cases he
end rules
end Go.Am

namespace Go.Am
open Go

theorem Branch.of_tt {b : Bool} {X Y : Prop} (hb : b = true) (h : X) : Branch b X Y := ⟨fun _ => h, fun hf => (by rw [hb] at hf; cases hf)⟩
theorem Branch.of_ff {b : Bool} {X Y : Prop} (hb : b = false) (h : Y) : Branch b X Y := ⟨fun ht => (by rw [hb] at ht; cases ht), fun _ => h⟩

theorem LoadP.get {H : Heap} {b o i : Nat} {vs : List Value} {op wr : Bool} {v : Value} {K : Value → Prop} (ha : At H b (.cells vs op wr) i) (hv : vs[o]? = some v) (hk : K v) : LoadP H b o K := ⟨vs, op, wr, i, v, ha, hv, hk⟩

inductive Cut : List Value → Nat → Nat → List Value → Prop
  | nil {vs} : Cut vs 0 0 []
  | take {v vs n cs} : Cut vs 0 n cs → Cut (v :: vs) 0 (n + 1) (v :: cs)
  | skip {v vs o n cs} : Cut vs o n cs → Cut (v :: vs) (o + 1) n cs

theorem Cut.eq {vs cs : List Value} {o n : Nat} (h : Cut vs o n cs) : (vs.drop o).take n = cs ∧ cs.length = n := by
  induction h with
  | nil => simp
  | take _ ih => exact ⟨by simp at ih ⊢; exact ih.1, by simp [ih.2]⟩
  | skip _ ih => exact ⟨by simpa using ih.1, ih.2⟩

theorem LoadsP.get {H : Heap} {b o n i : Nat} {vs cs : List Value} {op wr : Bool} {K : Value → Prop} (ha : At H b (.cells vs op wr) i) (hv : Cut vs o n cs) (hk : K (.agg cs.toArray)) : LoadsP H b o n K :=
  ⟨vs, op, wr, i, cs, ha, hv.eq.1, hv.eq.2, hk⟩

theorem StoreP.put {H H' : Heap} {b o n : Nat} {cs vs vs' : List Value} {op : Bool} {K : Heap → Prop} (hu : Upd H b (.cells vs op true) (.cells vs' op true) H') (hs : SetN vs o cs vs') (hl : cs.length = n) (h1 : cs.all (·.oneCell') = true) (hk : K H') : StoreP H b o n cs K :=
  ⟨vs, vs', op, H', hl, hs, h1, hu, hk⟩

theorem OtherR.pure {P : Program} {o : Oper} {F : Fr} {H : Heap} {K : Sem Next → Value → Prop} {s : Sem Next} {v : Value} (h : pureS P o F s v) (hk : K s v) : OtherR P o F H K := ⟨s, v, h.read, hk⟩

/-- two numbers, or texts, or truths alike? -/
theorem eq_S {a b : BS} : (((ByteArray.mk a.toArray).toList == (ByteArray.mk b.toArray).toList)) = decide (a = b) := by
  rw [toList_S, toList_S]
  by_cases h : a = b
  · subst h; simp
  · rw [decide_eq_false h]; simpa using h

end Go.Am

namespace Go.Am
open Go

theorem At.upd {H : Heap} {b i : Nat} {o : AObj} (h : At H b o i) (o' : AObj) : Upd H b o o' (hset H i o') := by
  induction h with
  | here => exact .here
  | there _ ih => exact .there ih

theorem At.same {H : Heap} {b i : Nat} {o : AObj} (h : At H b o i) (o' : AObj) : At (hset H i o') b o' i := by
  induction h with
  | here => exact .here
  | there _ ih => exact .there ih

theorem At.ne {H : Heap} {c j : Nat} {o : AObj} (h : At H c o j) : ∀ {i : Nat} (o' : AObj), j ≠ i → At (hset H i o') c o j := by
  induction h with
  | here =>
    intro i o' hne
    cases i with
    | zero => exact absurd rfl hne
    | succ i => exact .here
  | there _ ih =>
    rename_i x j _
    intro i o' hne
    cases i with
    | zero => obtain ⟨b, u⟩ := x; exact .there ‹_›
    | succ i => exact .there (ih o' (by omega))

theorem hset_hset : ∀ (H : Heap) (i : Nat) (o o' : AObj), hset (hset H i o) i o' = hset H i o' := by
  intro H
  induction H with
  | nil => intros; rfl
  | cons x H ih =>
    intro i o o'
    obtain ⟨b, u⟩ := x
    cases i with
    | zero => rfl
    | succ i => simp only [hset, ih]

theorem hset_same : ∀ {H : Heap} {b i : Nat} {o : AObj}, At H b o i → hset H i o = H := by
  intro H b i o h
  induction h with
  | here => rfl
  | there _ ih => simp only [hset, ih]

/-- entries whose elements are written by a function -/
def entsF {α : Type} (f : α → Value) (l : List (BS × α × Nat)) : List Ent := l.map fun e => (e.1, f e.2.1, e.2.2)

def afind {α : Type} : List (BS × α × Nat) → BS → Option α
  | [], _ => none
  | e :: l, k => if k = e.1 then some e.2.1 else afind l k

def aset {α : Type} : List (BS × α × Nat) → BS → α → List (BS × α × Nat)
  | [], _, _ => []
  | e :: l, k, v => if k = e.1 then (k, v, e.2.2) :: l else e :: aset l k v

theorem lget_ents {α : Type} (f : α → Value) : ∀ (l : List (BS × α × Nat)) (k : BS), lget (entsF f l) k = (afind l k).map f := by
  intro l k
  induction l with
  | nil => rfl
  | cons e l ih =>
    simp only [lget, entsF, List.map_cons, lfind, afind] at ih ⊢
    split
    · rfl
    · rw [lfind_succ]
      rw [← ih]
      cases lfind (List.map (fun e => (e.1, f e.2.1, e.2.2)) l) k <;> rfl

theorem lset_ents {α : Type} (f : α → Value) : ∀ (l : List (BS × α × Nat)) (k : BS) (v : α), lset (entsF f l) k (f v) = entsF f (aset l k v) := by
  intro l k v
  induction l with
  | nil => rfl
  | cons e l ih =>
    simp only [entsF, List.map_cons, lset, aset] at ih ⊢
    split
    · rfl
    · simp only [List.map_cons, ih]

theorem lput_some {α : Type} {f : α → Value} {l : List (BS × α × Nat)} {k : BS} {v : α} {c : Nat} (h : (afind l k).isSome = true) : lput (entsF f l) c k (f v) = (entsF f (aset l k v), c) := by
  have : (lfind (entsF f l) k).isSome = true := by
    have := lget_ents f l k
    unfold lget at this
    cases hl : lfind (entsF f l) k with
    | some x => rfl
    | none => rw [hl] at this; cases ha : afind l k with
      | none => rw [ha] at h; cases h
      | some y => rw [ha] at this; cases this
  simp [lput, this, lset_ents]

theorem lput_none {α : Type} {f : α → Value} {l : List (BS × α × Nat)} {k : BS} {v : α} {c : Nat} (h : afind l k = none) : lput (entsF f l) c k (f v) = (entsF f (l ++ [(k, v, c)]), c + 1) := by
  have : (lfind (entsF f l) k).isSome = false := by
    have := lget_ents f l k
    unfold lget at this
    cases hl : lfind (entsF f l) k with
    | none => rfl
    | some x => rw [hl, h] at this; cases this
  simp only [lput, this, Bool.false_eq_true, if_false]
  simp [entsF]

theorem length_ents {α : Type} (f : α → Value) (l : List (BS × α × Nat)) : (entsF f l).length = l.length := by simp [entsF]

end Go.Am

namespace Go.Am
open Go

theorem CallP.ext {P : Program} {k : FuncId} {fn : Func} {e : Array Value → Sem Value} {args : List Value} {H : Heap} {K : Value → Heap → Prop} {v : Value}
    (hf : P.funcs[k]? = some fn) (hname : (fn.name == "runtime.NumGoroutine") = false) (hb : fn.body = none) (hnx : Extern.findNext fn = none) (he : Extern.find fn = some e)
    (hr : ∀ A, SL A H → SemR P (e args.toArray) A v) (hk : K v H) : CallP P k args H K := by
  refine ⟨fun A hA => ?_⟩
  have hrun : SemR P (callFunc k args.toArray) A (.value v) := fun w hw => by
    have h1 := run_callFunc_extern (P := P) (f := k) (fn := fn) (e := e) hf hname (by rw [hb]; rfl) hnx he args.toArray w
    rw [h1, hr A hA w hw]
    rfl
  exact hrun.sem ⟨H, hA, .refl _ _, hk⟩

end Go.Am
