/-
A command handed on.
-/
import Derived.Test.YtlogogdfmcdpfaaGreatDoorZa
import Derived.Test.YtlogogdfmcdpfaaGreatDoorWc
import Derived.Test.YtlogogdfmcdpfaaGreatDoorZd
import Derived.Test.YtlogogdfmcdpfaaGreatDoorWk
set_option linter.all false
namespace Go.Z
open Go Go.Am Go.Proofs
set_option maxHeartbeats 1000000
set_option maxRecDepth 10000

structure CmdV where
  kind : Int
  op : Int
  frm : BS
  to : BS
  amount : Int
  key : BS
  oslot : Int
  oshard : Int
  id : BS
  name : BS
  n : Int
  why : Int
  slot : Int
  epoch : Int
  at_ : Int
  last : Bool

def CmdV.cells (c : CmdV) (d : Value) : List Value := [.int .i64 c.kind, .int .i64 c.op, S c.frm, S c.to, .int .i64 c.amount, S c.key, .int .i64 c.oslot, .int .i64 c.oshard, S c.id, S c.name, .int .i64 c.n, .int .i64 c.why, .int .i64 c.slot, .int .i64 c.epoch, .int .i64 c.at_, .bool c.last, d]

theorem _root_.Go.Am.SrcOk.there {H : Heap} {size : Nat} {x : Value} {n : Nat} {news : List Value} {y : Nat × AObj} (h : SrcOk H size x n news) : SrcOk (y :: H) size x n news := by
  rcases h with h | ⟨b, o, c, vs, op, wr, i, h1, h2, h3⟩ | h | h
  · exact .inl h
  · exact .inr (.inl ⟨b, o, c, vs, op, wr, i + 1, h1, h2.there, h3⟩)
  · exact .inr (.inr (.inl h))
  · exact .inr (.inr (.inr h))


noncomputable def tl0 : Code := match Tryz.f21.body with
  | some (.seq _ t) => t
  | _ => .skip
noncomputable def r0 : Code := match Tryz.f21.body with
  | some (.seq a _) => a
  | _ => .skip
noncomputable def r1 : Code := match tl0 with
  | .seq a _ => a
  | _ => .skip
noncomputable def tl1 : Code := match tl0 with
  | .seq _ t => t
  | _ => .skip
theorem body21 : Tryz.f21.body = some (.seq r0 (.seq r1 tl1)) := by kernel_rfl

def hG (c : CmdV) (d d' : Value) (b b1 b2 : Nat) (zs : List Value) (H : Heap) : Heap := (b, .cells (c.cells d') false true) :: (b1, .cells zs false true) :: (b2, .cells (c.cells d) false true) :: H
end Go.Z

namespace Go.Z
open Go Go.Am Go.Proofs
set_option maxHeartbeats 1000000
set_option maxRecDepth 10000

theorem gv0 (c : CmdV) (d : Value) (H : Heap) : codeE Tryz.prog ty 32 r0 (fun e F' H' => e = .normal ∧ ∃ b1 b2, (∀ t, TR F' t → TR [(2, .pointer (some ⟨b1, 0, none⟩)), (1, .pointer (some ⟨b2, 0, none⟩))] t) ∧ H' = (b1, .cells t44.zero false true) :: (b2, .cells (c.cells d) false true) :: H)
    (fargs [.agg (c.cells d).toArray] 0) H := by
  conv => whnf
  repeat (first | (with_reducible refine Branch.tt ?_; conv => whnf) | (with_reducible refine Branch.ff ?_; conv => whnf) | (refine Branch.of_tt (by decide +kernel) ?_; conv => whnf) | (refine Branch.of_ff (by decide +kernel) ?_; conv => whnf) | (refine JoinP.dup ?_; conv => whnf) | (refine LoadP.get (by repeat (first | exact At.here | assumption | apply At.there)) (by rfl) ?_; conv => whnf) | (refine LoadsP.get (by repeat (first | exact At.here | assumption | apply At.there)) (by repeat (first | exact Cut.nil | apply Cut.skip | apply Cut.take)) ?_; conv => whnf) | (refine StoreP.put (by repeat (first | exact Upd.here | apply Upd.there)) (by repeat (first | exact SetN.nil | apply SetN.here | apply SetN.there)) rfl rfl ?_; conv => whnf) | (refine Req.mk (by decide) ?_; conv => whnf) | (intro b; conv => whnf))
  refine ⟨rfl, _, _, ?_, rfl⟩
  intro t ht i v hm
  simp only [List.mem_cons, Prod.mk.injEq, List.not_mem_nil, or_false] at hm
  rcases hm with ⟨rfl, rfl⟩ | ⟨rfl, rfl⟩ <;> exact ht _ _ (by simp)

theorem gv1 (c : CmdV) (d : Value) (H : Heap) (b1 b2 : Nat) : codeE Tryz.prog ty 32 r1 (fun e F' H' => e = .normal ∧ ∃ b, (∀ t, TR F' t → TR [(3, .pointer (some ⟨b, 0, none⟩)), (2, .pointer (some ⟨b1, 0, none⟩)), (1, .pointer (some ⟨b2, 0, none⟩))] t) ∧ H' = hG c d (.slice none 0 0) b b1 b2 t44.zero H)
    [(2, .pointer (some ⟨b1, 0, none⟩)), (1, .pointer (some ⟨b2, 0, none⟩))] ((b1, .cells t44.zero false true) :: (b2, .cells (c.cells d) false true) :: H) := by
  conv => whnf
  repeat (first | (with_reducible refine Branch.tt ?_; conv => whnf) | (with_reducible refine Branch.ff ?_; conv => whnf) | (refine Branch.of_tt (by decide +kernel) ?_; conv => whnf) | (refine Branch.of_ff (by decide +kernel) ?_; conv => whnf) | (refine JoinP.dup ?_; conv => whnf) | (refine LoadP.get (by repeat (first | exact At.here | assumption | apply At.there)) (by rfl) ?_; conv => whnf) | (refine LoadsP.get (by repeat (first | exact At.here | assumption | apply At.there)) (by repeat (first | exact Cut.nil | apply Cut.skip | apply Cut.take)) ?_; conv => whnf) | (refine StoreP.put (by repeat (first | exact Upd.here | apply Upd.there)) (by repeat (first | exact SetN.nil | apply SetN.here | apply SetN.there)) rfl rfl ?_; conv => whnf) | (refine Req.mk (by decide) ?_; conv => whnf) | (intro b; conv => whnf))
  refine ⟨rfl, _, ?_, rfl⟩
  intro t ht i v hm
  simp only [List.mem_cons, Prod.mk.injEq, List.not_mem_nil, or_false] at hm
  rcases hm with ⟨rfl, rfl⟩ | ⟨rfl, rfl⟩ | ⟨rfl, rfl⟩ <;> exact ht _ _ (by simp)
end Go.Z

namespace Go.Z
open Go Go.Am Go.Proofs
set_option maxHeartbeats 1000000
set_option maxRecDepth 10000

theorem gv2 (c : CmdV) (d : Value) (H : Heap) (b b1 b2 : Nat) (m : Nat) (news : List Value) (hd : SrcOk H 1 d m news) (hm : m ≤ 2 ^ 47 - 96) :
    codeE Tryz.prog ty 32 tl1 (doneE ty Tryz.f21 (fun v H' => DropP H' fun H' => H' = H ∧ ∃ d', d'.oneCell' = true ∧ v = .agg (c.cells d').toArray)) [(3, .pointer (some ⟨b, 0, none⟩)), (2, .pointer (some ⟨b1, 0, none⟩)), (1, .pointer (some ⟨b2, 0, none⟩))] (hG c d (.slice none 0 0) b b1 b2 t44.zero H) := by
  unfold hG CmdV.cells
  conv => whnf
  repeat (first | (with_reducible refine Branch.tt ?_; conv => whnf) | (with_reducible refine Branch.ff ?_; conv => whnf) | (refine Branch.of_tt (by decide +kernel) ?_; conv => whnf) | (refine Branch.of_ff (by decide +kernel) ?_; conv => whnf) | (refine JoinP.dup ?_; conv => whnf) | (refine LoadP.get (by repeat (first | exact At.here | assumption | apply At.there)) (by rfl) ?_; conv => whnf) | (refine LoadsP.get (by repeat (first | exact At.here | assumption | apply At.there)) (by repeat (first | exact Cut.nil | apply Cut.skip | apply Cut.take)) ?_; conv => whnf) | (refine StoreP.put (by repeat (first | exact Upd.here | apply Upd.there)) (by repeat (first | exact SetN.nil | apply SetN.here | apply SetN.there)) rfl rfl ?_; conv => whnf) | (refine Req.mk (by decide) ?_; conv => whnf) | (intro b; conv => whnf))
  refine OtherP.append (te := t5) (olds := []) (tyOk.spec (t := 39) rfl) rfl (tyOk.spec rfl) (tyOk.spec (t := 39) rfl) (.inr ⟨_, rfl⟩) (by rfl) (by rfl) (hd.there.there.there) (by decide) (by simp only [Nat.zero_add]; show (2 * m + 192) * 1 ≤ 2 ^ 48; omega) (fun h => .inl ⟨rfl, ?_⟩) (fun h => ⟨.inl ⟨0, rfl, rfl, rfl⟩, fun b sp => ?_⟩)
  · conv => whnf
    repeat (first | (with_reducible refine Branch.tt ?_; conv => whnf) | (with_reducible refine Branch.ff ?_; conv => whnf) | (refine Branch.of_tt (by decide +kernel) ?_; conv => whnf) | (refine Branch.of_ff (by decide +kernel) ?_; conv => whnf) | (refine JoinP.dup ?_; conv => whnf) | (refine LoadP.get (by repeat (first | exact At.here | assumption | apply At.there)) (by rfl) ?_; conv => whnf) | (refine LoadsP.get (by repeat (first | exact At.here | assumption | apply At.there)) (by repeat (first | exact Cut.nil | apply Cut.skip | apply Cut.take)) ?_; conv => whnf) | (refine StoreP.put (by repeat (first | exact Upd.here | apply Upd.there)) (by repeat (first | exact SetN.nil | apply SetN.here | apply SetN.there)) rfl rfl ?_; conv => whnf) | (refine Req.mk (by decide) ?_; conv => whnf) | (intro b; conv => whnf))
    exact DropP.tail (DropP.tail (DropP.tail (DropP.id ⟨rfl, _, rfl, rfl⟩)))
  · conv => whnf
    repeat (first | (with_reducible refine Branch.tt ?_; conv => whnf) | (with_reducible refine Branch.ff ?_; conv => whnf) | (refine Branch.of_tt (by decide +kernel) ?_; conv => whnf) | (refine Branch.of_ff (by decide +kernel) ?_; conv => whnf) | (refine JoinP.dup ?_; conv => whnf) | (refine LoadP.get (by repeat (first | exact At.here | assumption | apply At.there)) (by rfl) ?_; conv => whnf) | (refine LoadsP.get (by repeat (first | exact At.here | assumption | apply At.there)) (by repeat (first | exact Cut.nil | apply Cut.skip | apply Cut.take)) ?_; conv => whnf) | (refine StoreP.put (by repeat (first | exact Upd.here | apply Upd.there)) (by repeat (first | exact SetN.nil | apply SetN.here | apply SetN.there)) rfl rfl ?_; conv => whnf) | (refine Req.mk (by decide) ?_; conv => whnf) | (intro b; conv => whnf))
    exact DropP.tail (DropP.tail (DropP.tail (DropP.tail (DropP.id ⟨rfl, _, rfl, rfl⟩))))
end Go.Z

namespace Go.Z
open Go Go.Am Go.Proofs
set_option maxHeartbeats 1000000
set_option maxRecDepth 10000

theorem CodeS.toCallS {P : Program} {T : Nat → Option TI} (hT : TabOk P T) {f : FuncId} {fn : Func} {c : Code} {args : List Value} {H : Heap} {Q : Value → Heap → Prop} {N : Nat}
    (hf : P.funcs[f]? = some fn) (hb : fn.body = some c) (hn : fn.ntmps = N) (hl : Nat.ble args.length N = true) (h : CodeS P N c (fargs args 0) H (doneE T fn Q)) : CallS P f args.toArray H Q := by
  refine callS_body hf hb hn hl (h.mono fun e F' H' hq => ?_)
  cases e with
  | normal => exact resE_sound hT hq
  | ret => exact resE_sound hT hq
  | _ => exact hq.elim

theorem given (c : CmdV) (d : Value) (H : Heap) (m : Nat) (news : List Value) (hd : SrcOk H 1 d m news) (hm : m ≤ 2 ^ 47 - 96) : Go.Am.Spec Tryz.prog 21 [.agg (c.cells d).toArray] H (fun v H' => H' = H ∧ ∃ d', d'.oneCell' = true ∧ v = .agg (c.cells d').toArray) := by
  refine ⟨by kernel_rfl, CallS.drop (CodeS.toCallS tyOk Tryz.func21 body21 (N := 32) (by kernel_rfl) rfl ?_)⟩
  refine codeS_seq fun K hK => (codeE_sound tyOk mixed r0 (gv0 c d H)).mono fun e F' H' ⟨he, b1, b2, hT, hH⟩ => ?_
  subst he; subst hH
  refine hK _ _ (CodeS.of_TR hT (codeS_seq fun K2 hK2 => (codeE_sound tyOk mixed r1 (gv1 c d H b1 b2)).mono fun e F' H' ⟨he, b, hT, hH⟩ => ?_))
  subst he; subst hH
  exact hK2 _ _ (CodeS.of_TR hT (codeE_sound tyOk mixed tl1 (gv2 c d H b b1 b2 m news hd hm)))

/-! The law's first pieces. -/

noncomputable def n0 : Code := match Tryz.f11.body with
  | some (.seq a _) => a
  | _ => .skip
noncomputable def m0 : Code := match Tryz.f11.body with
  | some (.seq _ t) => t
  | _ => .skip
noncomputable def n1 : Code := match m0 with
  | .seq a _ => a
  | _ => .skip
noncomputable def m1 : Code := match m0 with
  | .seq _ t => t
  | _ => .skip
noncomputable def n2 : Code := match m1 with
  | .seq a _ => a
  | _ => .skip
noncomputable def m2 : Code := match m1 with
  | .seq _ t => t
  | _ => .skip
theorem body11 : Tryz.f11.body = some (.seq n0 (.seq n1 (.seq n2 m2))) := by kernel_rfl

theorem k0 (c : CmdV) (d : Value) (H : Heap) : codeE Tryz.prog ty 54 n0 (fun e F' H' => e = .normal ∧ ∃ b, (∀ t, TR F' t → TR [(1, .pointer (some ⟨b, 0, none⟩))] t) ∧ H' = (b, .cells (c.cells d) false true) :: H) (fargs [.agg (c.cells d).toArray] 0) H := by
  conv => whnf
  repeat (first | (with_reducible refine Branch.tt ?_; conv => whnf) | (with_reducible refine Branch.ff ?_; conv => whnf) | (refine Branch.of_tt (by decide +kernel) ?_; conv => whnf) | (refine Branch.of_ff (by decide +kernel) ?_; conv => whnf) | (refine JoinP.dup ?_; conv => whnf) | (refine LoadP.get (by repeat (first | exact At.here | assumption | apply At.there)) (by rfl) ?_; conv => whnf) | (refine LoadsP.get (by repeat (first | exact At.here | assumption | apply At.there)) (by repeat (first | exact Cut.nil | apply Cut.skip | apply Cut.take)) ?_; conv => whnf) | (refine StoreP.put (by repeat (first | exact Upd.here | apply Upd.there)) (by repeat (first | exact SetN.nil | apply SetN.here | apply SetN.there)) rfl rfl ?_; conv => whnf) | (refine Req.mk (by decide) ?_; conv => whnf) | (intro b; conv => whnf))
  refine ⟨rfl, _, ?_, rfl⟩
  intro t ht i v hm
  simp only [List.mem_cons, Prod.mk.injEq, List.not_mem_nil, or_false] at hm
  rcases hm with ⟨rfl, rfl⟩
  exact ht _ _ (by simp)
theorem k1 (b : Nat) (H : Heap) : codeE Tryz.prog ty 54 n1 (fun e F' H' => e = .normal ∧ (∀ t, TR F' t → TR [(3, .pointer none), (1, .pointer (some ⟨b, 0, none⟩))] t) ∧ H' = H) [(1, .pointer (some ⟨b, 0, none⟩))] H := by
  conv => whnf
  repeat (first | (with_reducible refine Branch.tt ?_; conv => whnf) | (with_reducible refine Branch.ff ?_; conv => whnf) | (refine Branch.of_tt (by decide +kernel) ?_; conv => whnf) | (refine Branch.of_ff (by decide +kernel) ?_; conv => whnf) | (refine JoinP.dup ?_; conv => whnf) | (refine LoadP.get (by repeat (first | exact At.here | assumption | apply At.there)) (by rfl) ?_; conv => whnf) | (refine LoadsP.get (by repeat (first | exact At.here | assumption | apply At.there)) (by repeat (first | exact Cut.nil | apply Cut.skip | apply Cut.take)) ?_; conv => whnf) | (refine StoreP.put (by repeat (first | exact Upd.here | apply Upd.there)) (by repeat (first | exact SetN.nil | apply SetN.here | apply SetN.there)) rfl rfl ?_; conv => whnf) | (refine Req.mk (by decide) ?_; conv => whnf) | (intro b; conv => whnf))
  refine ⟨rfl, ?_, rfl⟩
  intro t ht i v hm
  simp only [List.mem_cons, Prod.mk.injEq, List.not_mem_nil, or_false] at hm
  rcases hm with ⟨rfl, rfl⟩ | ⟨rfl, rfl⟩ <;> exact ht _ _ (by simp)

def rv : Value := .agg #[.int .i64 2, .bool false, .int .i64 0, .int .i64 0, .slice none 0 0, .slice none 0 0]
def anyC : List Value := List.replicate 17 (.chan none)
theorem do_ev : evF E 1000 (.call 15 [.pointer none, .agg anyC.toArray]) .leaf 0 (isV rv) = true := by kernel_rfl

theorem do_nil (c : CmdV) (d : Value) (hd : d.oneCell' = true) (H : Heap) : Go.Am.Spec Tryz.prog 15 [.pointer none, .agg (c.cells d).toArray] H (fun v G => G = H ∧ v = rv) := by
  refine evF_specR (by kernel_rfl) E_ok (args := [.pointer none, .agg anyC.toArray]) (.cons (.flat _ rfl) (.cons (.agg ?_) .nil)) do_ev (fun v H m h R u hv => ?_) H
  · show VL _ [.chan none, .chan none, .chan none, .chan none, .chan none, .chan none, .chan none, .chan none, .chan none, .chan none, .chan none, .chan none, .chan none, .chan none, .chan none, .chan none, .chan none] (c.cells d)
    unfold CmdV.cells
    exact .cons (.any _ rfl) (.cons (.any _ rfl) (.cons (.any _ rfl) (.cons (.any _ rfl) (.cons (.any _ rfl) (.cons (.any _ rfl) (.cons (.any _ rfl) (.cons (.any _ rfl) (.cons (.any _ rfl) (.cons (.any _ rfl) (.cons (.any _ rfl) (.cons (.any _ rfl) (.cons (.any _ rfl) (.cons (.any _ rfl) (.cons (.any _ rfl) (.cons (.any _ rfl) (.cons (.any _ hd) .nil))))))))))))))))
  · rw [isV_eq h] at hv
    exact hv.agg_flat (by rfl)

theorem k2 (c : CmdV) (d : Value) (b : Nat) (H : Heap) (m : Nat) (news : List Value) (hd : SrcOk H 1 d m news) (hm : m ≤ 2 ^ 47 - 96) :
    codeE Tryz.prog ty 54 n2 (fun e F' H' => e = .normal ∧ ∃ r, (∀ t, TR F' t → TR [(4, .pointer (some ⟨r, 0, none⟩)), (3, .pointer none)] t) ∧ ∃ G, H' = (r, .cells [.int .i64 2, .bool false, .int .i64 0, .int .i64 0, .slice none 0 0, .slice none 0 0] false true) :: G)
    [(3, .pointer none), (1, .pointer (some ⟨b, 0, none⟩))] ((b, .cells (c.cells d) false true) :: H) := by
  unfold CmdV.cells
  conv => whnf
  repeat (first | (with_reducible refine Branch.tt ?_; conv => whnf) | (with_reducible refine Branch.ff ?_; conv => whnf) | (refine Branch.of_tt (by decide +kernel) ?_; conv => whnf) | (refine Branch.of_ff (by decide +kernel) ?_; conv => whnf) | (refine JoinP.dup ?_; conv => whnf) | (refine LoadP.get (by repeat (first | exact At.here | assumption | apply At.there)) (by rfl) ?_; conv => whnf) | (refine LoadsP.get (by repeat (first | exact At.here | assumption | apply At.there)) (by repeat (first | exact Cut.nil | apply Cut.skip | apply Cut.take)) ?_; conv => whnf) | (refine StoreP.put (by repeat (first | exact Upd.here | apply Upd.there)) (by repeat (first | exact SetN.nil | apply SetN.here | apply SetN.there)) rfl rfl ?_; conv => whnf) | (refine Req.mk (by decide) ?_; conv => whnf) | (intro b; conv => whnf))
  refine CallP.use (given c d _ m news hd.there hm) ?_
  rintro v H' ⟨rfl, d', hd', rfl⟩
  conv => whnf
  refine CallP.use (do_nil c d' hd' _) ?_
  rintro v H' ⟨rfl, rfl⟩
  conv => whnf
  repeat (first | (with_reducible refine Branch.tt ?_; conv => whnf) | (with_reducible refine Branch.ff ?_; conv => whnf) | (refine Branch.of_tt (by decide +kernel) ?_; conv => whnf) | (refine Branch.of_ff (by decide +kernel) ?_; conv => whnf) | (refine JoinP.dup ?_; conv => whnf) | (refine LoadP.get (by repeat (first | exact At.here | assumption | apply At.there)) (by rfl) ?_; conv => whnf) | (refine LoadsP.get (by repeat (first | exact At.here | assumption | apply At.there)) (by repeat (first | exact Cut.nil | apply Cut.skip | apply Cut.take)) ?_; conv => whnf) | (refine StoreP.put (by repeat (first | exact Upd.here | apply Upd.there)) (by repeat (first | exact SetN.nil | apply SetN.here | apply SetN.there)) rfl rfl ?_; conv => whnf) | (refine Req.mk (by decide) ?_; conv => whnf) | (intro b; conv => whnf))
  refine ⟨rfl, _, ?_, _, rfl⟩
  intro t ht i v hm
  simp only [List.mem_cons, Prod.mk.injEq, List.not_mem_nil, or_false] at hm
  rcases hm with ⟨rfl, rfl⟩ | ⟨rfl, rfl⟩ <;> exact ht _ _ (by simp)
end Go.Z
