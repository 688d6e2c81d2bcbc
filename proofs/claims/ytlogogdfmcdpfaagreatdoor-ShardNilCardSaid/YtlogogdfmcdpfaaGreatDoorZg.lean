/-
The law at any memory.
-/
import Derived.Test.YtlogogdfmcdpfaaGreatDoorZf
import Derived.Test.YtlogogdfmcdpfaaGreatDoorZe
set_option linter.all false
namespace Go.Z
open Go Go.Am Go.Proofs
set_option maxRecDepth 10000

/-- known() is taken by what is known of it -/
def orac2 (f : Nat) (args : List Value) (H : BT XO) (n : Nat) : Option (Option (List Eff)) :=
  bif Nat.beq f 20 then (match args with
    | [] => some (some [(.bool true, H, n)])
    | _ => some none)
  else orac f args H n
noncomputable def E2 : EP := ⟨ty, funcs.get, pi, orac2⟩

theorem E2_ok (W0 : AHeap) : EOk Tryz.prog W0 E2 := by
  refine ⟨tyOk, zeroOk, mixed, fun f fn h => KT.All.get funcsOk h, fun f args H n l h R A args' hx hv => ?_⟩
  replace h : orac2 f args H n = some (some l) := h
  unfold orac2 at h
  cases h1 : Nat.beq f 20 with
  | true =>
    rw [h1] at h
    obtain rfl := Nat.eq_of_beq_eq_true h1
    simp only [cond_true] at h
    split at h
    · simp only [Option.some.injEq] at h; subst h
      cases hv
      refine (evF_callR A (E_ok A) .nil known_ev fin_true).mono fun nx A' _ hq => opNextX.mono ?_ hq
      rintro u A2 ⟨rfl, hn, hg⟩
      exact .same (hx.keep hn hg) (.flat _ rfl)
    · cases h
  | false =>
    rw [h1] at h
    exact orac_ok f args H n l h R A args' hx hv

def rvC : List Value := [.int .i64 2, .bool false, .int .i64 0, .int .i64 0, .slice none 0 0, .slice none 0 0]
def fx : BT Value := BT.put 32 (BT.put 32 .leaf 4 (some (.pointer (some ⟨0, 0, none⟩)))) 3 (some (.pointer none))
theorem rest_ev : evF E2 1000 (.code none 11 54 m2 fx []) (.node (some (.cells rvC 1 0 0 false true)) .leaf .leaf) 1 (leaveK E2 Tryz.f11 fin) = true := by kernel_rfl

theorem fx_ok {t : Array Value} {r : Nat} (hs : t.size = 54) (ht : TR [(4, .pointer (some ⟨r, 0, none⟩)), (3, .pointer none)] t) : FR (fun x y z => x = 0 ∧ y = r ∧ z = 0) 54 fx t := by
  refine ⟨hs, fun i v hi => ?_⟩
  rcases BT.get_put _ _ _ _ _ _ hi with ⟨rfl, h⟩ | ⟨_, hi⟩
  · simp only [Option.some.injEq] at h; subst h
    exact ⟨_, ht 3 _ (by simp), .flat _ rfl⟩
  · rcases BT.get_put _ _ _ _ _ _ hi with ⟨rfl, h⟩ | ⟨_, hi⟩
    · simp only [Option.some.injEq] at h; subst h
      exact ⟨_, ht 4 _ (by simp), .ptr ⟨rfl, rfl, rfl⟩⟩
    · simp [BT.get] at hi

theorem law (c : CmdV) (d : Value) (m : Nat) (news : List Value) (H : Heap) (hd : SrcOk H 1 d m news) (hm : m ≤ 2 ^ 47 - 96) (A : AHeap) (hA : SL A H) : CallA Tryz.prog 11 #[.agg (c.cells d).toArray] A (fun v _ => v = .bool true) := by
  have hN : Tryz.f11.ntmps = 54 := by kernel_rfl
  refine callX_body Tryz.func11 body11 ?_
  rw [hN]
  have hs0 : (#[Value.agg (c.cells d).toArray] ++ Array.replicate (54 - (#[Value.agg (c.cells d).toArray] : Array Value).size) undef).size = 54 := by simp
  generalize ht0 : (#[Value.agg (c.cells d).toArray] ++ Array.replicate (54 - (#[Value.agg (c.cells d).toArray] : Array Value).size) undef) = t0 at hs0 ⊢
  have hF0 : TR (fargs [.agg (c.cells d).toArray] 0) t0 := by
    intro i v hm
    simp only [fargs, List.mem_cons, Prod.mk.injEq, List.not_mem_nil, or_false] at hm
    obtain ⟨rfl, rfl⟩ := hm
    rw [← ht0]
    simp
  refine codeX_seq ((codeX_of_codeS (codeE_sound tyOk mixed n0 (k0 c d H)) hs0 hF0 hA).mono ?_)
  rintro e t1 ds A1 _ ⟨rfl, hs1, F1, H1, hF1, hA1, rfl, b, hT, rfl⟩
  refine codeX_seq ((codeX_of_codeS (codeE_sound tyOk mixed n1 (k1 b _)) hs1 (hT _ hF1) hA1).mono ?_)
  rintro e t2 ds A2 _ ⟨rfl, hs2, F2, H2, hF2, hA2, rfl, hT2, rfl⟩
  refine codeX_seq ((codeX_of_codeS (codeE_sound tyOk mixed n2 (k2 c d b H m news hd hm)) hs2 (hT2 _ hF2) hA2).mono ?_)
  rintro e t3 ds A3 _ ⟨rfl, hs3, F3, H3, hF3, hA3, rfl, r, hT3, G, rfl⟩
  have hA4 : SL A3 [(r, .cells rvC false true)] := ⟨by simp [keys], fun x hx => hA3.2 x (by
    simp only [List.mem_cons, List.not_mem_nil, or_false] at hx
    subst hx
    exact List.mem_cons_self)⟩
  refine (rest_ok (E2_ok { A3 with next := 0 }) rest_ev (HX.one hA4 rfl rfl) (fx_ok hs3 (hT3 _ hF3))).mono ?_
  intro e t4 ds4 A4 _ hq
  have hend : ∀ {ds : List Deferred} {A : AHeap}, LeaveX Tryz.prog Tryz.f11 t4 (ValPost { A3 with next := 0 } (fun x y z => x = 0 ∧ y = r ∧ z = 0) fun v H n => fin (.val v) H n) ds A → LeaveX Tryz.prog Tryz.f11 t4 (fun v _ => v = .bool true) ds A := by
    intro ds
    induction ds with
    | nil =>
      rintro A ⟨v, h1, R', v', H', n', h2, h3, h4, h5⟩
      exact ⟨v, h1, fin_true _ _ _ h5 _ _ h4⟩
    | cons x ds ih =>
      rintro A ⟨D, h1, h2, h3⟩
      exact ⟨D, h1, h2, ih h3⟩
  cases e with
  | normal => exact hend hq
  | ret => exact hend hq
  | _ => exact hq.elim
end Go.Z
