/-
What the evaluator is handed.
-/
import Derived.Shelf.Strings.OnBuilder
import Derived.Test.YtlogogdfmcdpfaaGreatDoorProg
import Derived.Test.YtlogogdfmcdpfaaGreatDoorZc
import Derived.Test.YtlogogdfmcdpfaaGreatDoorZb
import Derived.Test.YtlogogdfmcdpfaaGreatDoorWj
import Derived.Lib.Bytealg
set_option linter.all false
namespace Go.Proofs
open Go.Shelf
def Tryz.lays156_ren : Go.Shelf.Ren := ⟨fun | 156 => 86 | 165 => 164 | 166 => 165 | 169 => 166 | 240 => 224 | 241 => 225 | 276 => 272 | 277 => 273 | n => n, fun | 31 => 149 | 9 => 9 | 3 => 3 | 4 => 4 | 0 => 0 | 20 => 20 | 72 => 236 | 76 => 239 | 70 => 234 | 37 => 39 | 75 => 238 | 127 => 288 | 164 => 324 | 5 => 5 | 80 => 153 | n => n, fun | n => n⟩
theorem Tryz.lays156 : Go.Proofs.Lays.n156 Tryz.prog Tryz.lays156_ren := {
  mixed := by kernel_rfl
  f156 := Tryz.func86.trans (congrArg some (by kernel_rfl))
  f165 := Tryz.func164.trans (congrArg some (by kernel_rfl))
  f166 := Tryz.func165.trans (congrArg some (by kernel_rfl))
  f169 := Tryz.func166.trans (congrArg some (by kernel_rfl))
  f240 := Tryz.func224.trans (congrArg some (by kernel_rfl))
  f241 := Tryz.func225.trans (congrArg some (by kernel_rfl))
  f276 := Tryz.func272.trans (congrArg some (by kernel_rfl))
  f277 := Tryz.func273.trans (congrArg some (by kernel_rfl))
  t0 := Tryz.underlying0
  a0 := Tryz.isAgg0
  z0 := Tryz.sizeOf0
  v0 := Tryz.zeroValue0
  t3 := Tryz.underlying3
  a3 := Tryz.isAgg3
  z3 := Tryz.sizeOf3
  v3 := Tryz.zeroValue3
  t4 := Tryz.underlying4
  a4 := Tryz.isAgg4
  z4 := Tryz.sizeOf4
  v4 := Tryz.zeroValue4
  t9 := Tryz.underlying9
  a9 := Tryz.isAgg9
  z9 := Tryz.sizeOf9
  v9 := Tryz.zeroValue9
  t20 := Tryz.underlying20
  a20 := Tryz.isAgg20
  z20 := Tryz.sizeOf20
  v20 := Tryz.zeroValue20
  t31 := Tryz.underlying149
  a31 := Tryz.isAgg149
  z31 := Tryz.sizeOf149
  v31 := Tryz.zeroValue149
  t37 := Tryz.underlying39
  a37 := Tryz.isAgg39
  z37 := Tryz.sizeOf39
  v37 := Tryz.zeroValue39
  t70 := Tryz.underlying234
  a70 := Tryz.isAgg234
  z70 := Tryz.sizeOf234
  v70 := Tryz.zeroValue234
  t72 := Tryz.underlying236
  a72 := Tryz.isAgg236
  z72 := Tryz.sizeOf236
  v72 := Tryz.zeroValue236
  t75 := Tryz.underlying238
  a75 := Tryz.isAgg238
  z75 := Tryz.sizeOf238
  v75 := Tryz.zeroValue238
  t76 := Tryz.underlying239
  a76 := Tryz.isAgg239
  z76 := Tryz.sizeOf239
  v76 := Tryz.zeroValue239
  t127 := Tryz.underlying288
  a127 := Tryz.isAgg288
  z127 := Tryz.sizeOf288
  v127 := Tryz.zeroValue288
  t164 := Tryz.underlying324
  a164 := Tryz.isAgg324
  z164 := Tryz.sizeOf324
  v164 := Tryz.zeroValue324 }
theorem Tryz.Builder_Extra_156 : Builder.Extra Tryz.prog Tryz.lays156_ren := {
  sizeBuilder := by kernel_rfl
  liesBuilder := by kernel_rfl
  t5 := Tryz.underlying5
  a5 := Tryz.isAgg5
  z5 := Tryz.sizeOf5
  v5 := Tryz.zeroValue5
  infoByte := by kernel_rfl
  cellsByte := by kernel_rfl
  sizeByte := by kernel_rfl
  neB5 := by decide }
open Go.RowKit in
/-- No element: the empty string; the world is as it was. (Whatever the slice's address and capacity: a nil slice too.) (LAID: no walk: one application.) -/
theorem Tryz.strings_Join_none (a : Option Addr) (c : Nat) (sep : ByteArray) (w : World) :
    Calls Tryz.prog 86 #[.slice a 0 c, .string sep] w fun e w' => e = .returned (.string ⟨#[]⟩) ∧ w' = w := Any.strings_Join_none Tryz.lays156 Tryz.Builder_Extra_156 a c sep w
open Go.RowKit in
/-- strings.Join: "Join concatenates the elements of its first argument to create a single string. The separator string sep is placed between elements in the resulting string.": HOWEVER MANY ELEMENTS. Below the heap's end the world is as it was. (LAID: no walk: one application.) -/
theorem Tryz.strings_Join (bk o c : Nat) (xs : List ByteArray) (sep : ByteArray) (w : World) (hcells : ∀ (j : Nat) x, xs[j]? = some x → w.cell? ⟨bk, o + j, none⟩ = some (.string x)) (hbk : bk < w.heap.size) (hN : xs.length ≤ 140737488355328) (hcap : xs.length ≤ c) (hlen : (Lib.join (xs.map (·.data.toList)) sep.data.toList).length ≤ 140737488355328) :
    Calls Tryz.prog 86 #[.slice (some ⟨bk, o, none⟩) xs.length c, .string sep] w fun e w' => e = .returned (.string ⟨(Lib.join (xs.map (·.data.toList)) sep.data.toList).toArray⟩) ∧ Below w.heap.size w w' := Any.strings_Join Tryz.lays156 Tryz.Builder_Extra_156 bk o c xs sep w hcells hbk hN hcap hlen
end Go.Proofs

namespace Go.Z
open Go Go.Am Go.Proofs
set_option maxRecDepth 10000

def oCmp (args : List Value) (H : BT XO) (n : Nat) : Option (List Eff) :=
  match args with
  | [.string a, .string b] => some [(.int .i64 (Lib.compareBytes a.data.toList b.data.toList), H, n)]
  | _ => none
def oApart (args : List Value) (H : BT XO) (n : Nat) : Option (List Eff) :=
  match args with
  | [.slice (some ⟨a, _, none⟩) _ _, .slice (some ⟨b, _, none⟩) _ _] => bif Nat.beq a b then none else match H.get a, H.get b with
    | some (.cells _ _ _ _ _ true), some (.cells (_ :: _) _ _ _ _ _) => some [(.bool false, H, n)]
    | _, _ => none
  | _ => none
def oJoin (args : List Value) (H : BT XO) (n : Nat) : Option (List Eff) :=
  match args with
  | [.slice (some ⟨a, o, none⟩) l c, .string sep] => match H.get a with
    | some (.cells vs _ _ _ _ _) => bif Nat.ble (o + l) vs.length && Nat.ble l c && Nat.blt c bigU && Nat.ble l 140737488355328 then (match strs (sub vs o l) with
      | some ss => bif Nat.ble (joinL ss sep.data.toList).length 140737488355328 then some [(S (joinL ss sep.data.toList), H, n)] else none
      | none => none) else none
    | _ => none
  | _ => none

def orac (f : Nat) (args : List Value) (H : BT XO) (n : Nat) : Option (Option (List Eff)) :=
  bif Nat.beq f 298 then some (oCmp args H n)
  else bif Nat.beq f 206 || Nat.beq f 258 then some (oApart args H n)
  else bif Nat.beq f 86 then some (oJoin args H n)
  else none
noncomputable def E : EP := ⟨ty, funcs.get, pi, orac⟩

theorem g298_find : Extern.find Tryz.f298 = some Extern.BytealgCompare.compare := by kernel_rfl
theorem g298_next : Extern.findNext Tryz.f298 = none := by kernel_rfl
theorem g298_name : (Tryz.f298.name == "runtime.NumGoroutine") = false := by kernel_rfl
theorem g298_body : Tryz.f298.body = none := by kernel_rfl
theorem g206_find : Extern.find Tryz.f206 = some (Extern.SlicesOverlaps.overlaps #[115, 115] #[4]) := by kernel_rfl
theorem g206_next : Extern.findNext Tryz.f206 = none := by kernel_rfl
theorem g206_name : (Tryz.f206.name == "runtime.NumGoroutine") = false := by kernel_rfl
theorem g206_body : Tryz.f206.body = none := by kernel_rfl
theorem g258_find : Extern.find Tryz.f258 = some (Extern.SlicesOverlaps.overlaps #[114, 114] #[4]) := by kernel_rfl
theorem g258_next : Extern.findNext Tryz.f258 = none := by kernel_rfl
theorem g258_name : (Tryz.f258.name == "runtime.NumGoroutine") = false := by kernel_rfl
theorem g258_body : Tryz.f258.body = none := by kernel_rfl
theorem g86_enters : entersB Tryz.prog 86 = true := by kernel_rfl
theorem ty115 : ty 115 = some t115 := by kernel_rfl
theorem ty114 : ty 114 = some t114 := by kernel_rfl
theorem ty141 : ty 141 = some t141 := by kernel_rfl
theorem ty186 : ty 186 = some t186 := by kernel_rfl

section
variable {W0 : AHeap} {R : RelB} {n : Nat} {H : BT XO} {A : AHeap} {args args' : List Value} {l : List Eff}

theorem oCmp_ok (h : oCmp args H n = some l) (hx : HX W0 R n H A) (hv : VL R args args') : SemA Tryz.prog (callFunc 298 args'.toArray) A (opNextX Tryz.prog (EfPost W0 R l)) := by
  unfold oCmp at h
  split at h
  · rename_i a b
    simp only [Option.some.injEq] at h; subst h
    cases hv with
    | cons h1 h2 =>
      cases h2 with
      | cons h3 h4 =>
        cases h4
        obtain rfl := h1.string
        obtain rfl := h3.string
        exact semA_ext Tryz.func298 g298_name g298_body g298_next g298_find (fun w _ => Lib.run_compareString _ _ w) (.same hx (.flat _ rfl))
  · cases h

theorem oApart_inv (h : oApart args H n = some l) (hv : VL R args args') : ∃ a o l1 c b p m d u v vs es lo hi op y ws es' lo' hi' op' wr', args' = [u, v] ∧ l = [(.bool false, H, n)] ∧
    VR R (.slice (some ⟨a, o, none⟩) l1 c) u ∧ VR R (.slice (some ⟨b, p, none⟩) m d) v ∧ a ≠ b ∧ H.get a = some (.cells vs es lo hi op true) ∧ H.get b = some (.cells (y :: ws) es' lo' hi' op' wr') := by
  unfold oApart at h
  split at h
  · rename_i a o l1 c b p m d
    cases hab : Nat.beq a b with
    | true => rw [hab] at h; cases h
    | false =>
      rw [hab] at h
      simp only [cond_false] at h
      split at h
      · rename_i h1 h2
        simp only [Option.some.injEq] at h; subst h
        cases hv with
        | cons k1 k2 =>
          cases k2 with
          | cons k3 k4 =>
            cases k4
            exact ⟨_, _, _, _, _, _, _, _, _, _, _, _, _, _, _, _, _, _, _, _, _, _, rfl, rfl, k1, k3, Nat.ne_of_beq_eq_false hab, h1, h2⟩
      · cases h
  · cases h

theorem oJoin_ok (h : oJoin args H n = some l) (hx : HX W0 R n H A) (hv : VL R args args') : SemA Tryz.prog (callFunc 86 args'.toArray) A (opNextX Tryz.prog (EfPost W0 R l)) := by
  unfold oJoin at h
  split at h
  · rename_i a o l1 c sep
    split at h
    · rename_i vs es lo hi op wr ha
      cases hc : (Nat.ble (o + l1) vs.length && Nat.ble l1 c && Nat.blt c bigU && Nat.ble l1 140737488355328) with
      | false => rw [hc] at h; cases h
      | true =>
        rw [hc] at h
        simp only [cond_true] at h
        split at h
        · rename_i ss hss
          cases hlen : Nat.ble (joinL ss sep.data.toList).length 140737488355328 with
          | false => rw [hlen] at h; cases h
          | true =>
            rw [hlen] at h
            simp only [cond_true, Option.some.injEq] at h; subst h
            simp only [Bool.and_eq_true] at hc
            obtain ⟨⟨⟨c1, c2⟩, c3⟩, c4⟩ := hc
            cases hv with
            | cons k1 k2 =>
              cases k2 with
              | cons k3 k4 =>
                cases k4
                obtain rfl := k3.string
                exact join_ok g86_enters (fun bk o c xs sep w h1 h2 h3 h4 h5 => Tryz.strings_Join bk o c xs sep w h1 h2 h3 h4 h5) hx k1 ha (Nat.le_of_ble_eq_true c1) hss (Nat.le_of_ble_eq_true c2) (Nat.le_of_ble_eq_true c3) (Nat.le_of_ble_eq_true c4) (Nat.le_of_ble_eq_true hlen)
        · cases h
    · cases h
  · cases h
end

theorem orac_ok {W0 : AHeap} (f : Nat) (args : List Value) (H : BT XO) (n : Nat) (l : List Eff) (h : orac f args H n = some (some l)) (R : RelB) (A : AHeap) (args' : List Value) (hx : HX W0 R n H A) (hv : VL R args args') :
    SemA Tryz.prog (callFunc f args'.toArray) A (opNextX Tryz.prog (EfPost W0 R l)) := by
  unfold orac at h
  cases h1 : Nat.beq f 298 with
  | true =>
    rw [h1] at h
    obtain rfl := Nat.eq_of_beq_eq_true h1
    simp only [cond_true, Option.some.injEq] at h
    exact oCmp_ok h hx hv
  | false =>
    rw [h1] at h
    simp only [cond_false] at h
    cases h2 : (Nat.beq f 206 || Nat.beq f 258) with
    | true =>
      rw [h2] at h
      simp only [cond_true, Option.some.injEq] at h
      obtain ⟨a, o, l1, c, b, p, m, d, u, v, vs, es, lo, hi, op, y, ws, es', lo', hi', op', wr', rfl, rfl, k1, k2, k3, k4, k5⟩ := oApart_inv h hv
      rcases (Bool.or_eq_true_iff).1 h2 with h2 | h2
      · obtain rfl := Nat.eq_of_beq_eq_true h2
        exact overlaps_ok Tryz.func206 g206_name g206_body g206_next g206_find (tyOk.spec ty115) rfl (tyOk.spec ty141) hx k1 k2 k3 k4 k5
      · obtain rfl := Nat.eq_of_beq_eq_true h2
        exact overlaps_ok Tryz.func258 g258_name g258_body g258_next g258_find (tyOk.spec ty114) rfl (tyOk.spec ty186) hx k1 k2 k3 k4 k5
    | false =>
      rw [h2] at h
      simp only [cond_false] at h
      cases h3 : Nat.beq f 86 with
      | true =>
        rw [h3] at h
        obtain rfl := Nat.eq_of_beq_eq_true h3
        simp only [cond_true, Option.some.injEq] at h
        exact oJoin_ok h hx hv
      | false => rw [h3] at h; cases h

theorem E_ok (W0 : AHeap) : EOk Tryz.prog W0 E := ⟨tyOk, zeroOk, mixed, fun f fn h => KT.All.get funcsOk h, fun f args H n l h R A args' hx hv => orac_ok f args H n l h R A args' hx hv⟩

def fin (res : Res) (_ : BT XO) (_ : Nat) : Bool := match res with
  | .val (.bool true) => true
  | _ => false

theorem fin_true : ∀ v H m, fin (.val v) H m = true → ∀ R u, VR R v u → u = .bool true := by
  intro v H m h R u hv
  unfold fin at h
  split at h
  · rename_i heq
    simp only [Res.val.injEq] at heq
    subst heq
    exact hv.bool
  · cases h
end Go.Z
