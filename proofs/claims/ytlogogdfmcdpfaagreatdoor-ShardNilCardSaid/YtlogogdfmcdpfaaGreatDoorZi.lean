/-
The frame of the row.
-/
import Derived.Test.YtlogogdfmcdpfaaGreatDoorRows
import Derived.Test.YtlogogdfmcdpfaaGreatDoorChecked
import Derived.SevenTiedAt
import Derived.ProofKit
import Derived.Lay
import Derived.LaidOnce
import Derived.WalkKit
import Derived.Test.YtlogogdfmcdpfaaGreatDoorZh
import Derived.Test.YtlogogdfmcdpfaaGreatDoorZg
set_option linter.all false
namespace Go.Z
open Go Go.Proofs Go.Proofs.YtlogogdfmcdpfaaGreatDoor Go.RowKit Go.ChangeShapes Go.WideShapes Go.ChangeAt
set_option maxRecDepth 100000

def argTypes : List TypeId := [59, 3, 31, 9, 2, 25, 4, 39, 5]
theorem argsOk : Am.closedB Tryz.prog argTypes = true := by kernel_rfl

def laid : List (String × DataW Unit) := Rows.shardNilRow.laid

theorem wShaped (os : Os) : World.Shaped Tryz.prog (World.laidAll Tryz.prog os laid) := World.shaped_of_ZipB (by kernel_rfl) (by kernel_rfl)
theorem own0 : ownKnob Tryz.prog.godebug = none := by kernel_rfl

def w0 : Value := .agg #[.int .i64 0, .int .i64 0, .string ⟨#[]⟩, .string ⟨#[]⟩, .int .i64 0, .string ⟨#[]⟩, .int .i64 0, .int .i64 0, .string ⟨#[]⟩, .string ⟨#[]⟩, .int .i64 0, .int .i64 0, .int .i64 0, .int .i64 0, .int .i64 0, .bool false, .slice none 0 0]

theorem lifted (os : Os) (started : os.Started) (H : Type) (enc : TypeId × Value → H) :
    ReturnsInHanded {} Tryz.checked os 11 .any (fun w args => (Rows.shardNilSpec.pre enc Tryz.prog Tryz.f11 [] false w args ∧ laidMetH Tryz.prog laid w) ∧ sizedMet enc Tryz.prog Tryz.f11 (OpenSpec.ofChange Rows.shardNilSpec) false w args)
      (Rows.shardNilSpec.post enc Tryz.prog Tryz.f11 false true false false) := by
  refine returnsInHanded_of_change_and (C := Tryz.checked) (X := fun w _ => laidMetH Tryz.prog laid w) (fun _ _ _ hh h => h.of_heap hh) own0 started (by kernel_rfl) Tryz.func11
    (ChangeSpec.witness_shaped (enc := enc) (C := Tryz.checked) (os := os) (X := fun w _ => laidMetH Tryz.prog laid w) false (World.laidAll Tryz.prog os laid) #[w0] 8 (World.laidAll_os _ _ _)
      (wShaped os) (by kernel_rfl) (by kernel_rfl) (by kernel_rfl)
      (by rw [MakeChecks.laidMetH_plain _ _ _ (by kernel_rfl)]; exact laidMet_laidAll _ (by kernel_rfl) (by kernel_rfl))) ?_
  intro W base args ds gs before hval0 hW _ hwt _ _
  have hval : ∀ (j : Nat) t v, Tryz.f11.params[j]? = some t → args[j]? = some v → Value.okWide Tryz.prog W .any base t v := hval0
  have hW' := hW
  obtain ⟨p, q, hA0, hV, rfl, _, _⟩ := hW
  have hA : DataW.TrodAll enc Tryz.prog W 0 (fun _ => true) true Tryz.f11.params.toList args.toList ds p := hA0
  rw [Tryz.params11] at hA hval
  obtain ⟨v0, d0, rfl, rfl, h0⟩ := trodAll_one hA
  obtain ⟨rfl, rfl⟩ := trodVars_none hV
  have hv0 := hval 0 59 v0 rfl rfl
  unfold Value.okWide at hv0
  rw [Tryz.underlying59] at hv0
  obtain ⟨cs, rfl, _, _⟩ := hv0
  obtain ⟨fuel, h1⟩ := h0
  have hwt2 : (DataW.weightsEach Tryz.prog [59] [d0]).all (· ≤ reachBytes) = true := by
    have e : Tryz.f11.params.toList ++ DataSpec.varTypes Tryz.prog Rows.shardNilSpec.plain = [59] := by rw [Tryz.params11]; rfl
    have := hwt
    rw [show Tryz.checked.prog = Tryz.prog from rfl, e] at this
    exact this
  obtain ⟨c, d, Hs, m, news, h2, h3, h4, h5⟩ := open_cmd (x := (d0, p)) hwt2 h1
  have h2' : cs = (c.cells d).toArray := by rw [← h2]; rfl
  subst h2'
  refine (Am.calls_of_callA (law c d m news Hs h3 (by omega) _ h5)).mono ?_
  rintro e W' ⟨v, rfl, hk, hos, hout, rfl⟩
  refine ⟨_, rfl, ?_⟩
  refine Am.post_kept (ds := [d0]) argsOk (by rw [Tryz.params11]; decide) hW' rfl hk hos hout (fun _ _ _ => ?_) rfl rfl
  exact trodAll_mk1 (shut_bool Tryz.underlying4 _)
end Go.Z
