/-
For every command, the law of the nil shard (ShardNil) is true and the command reads as it did. Conditions: those that the card lists.
-/
import Derived.Test.YtlogogdfmcdpfaaGreatDoorZi
import Derived.Test.YtlogogdfmcdpfaaGreatDoorZj
import Derived.Test.YtlogogdfmcdpfaaGreatDoorTie
import Derived.Test.YtlogogdfmcdpfaaGreatDoorCards
set_option linter.all false
namespace Go.Proofs.YtlogogdfmcdpfaaGreatDoor
open Go Go.Z
set_option maxRecDepth 100000
theorem q1 : Tryz.prog.funcNamed "almoner/almonerlaw13.ShardNil" = some 11 := by kernel_rfl
theorem shardNil_row : Rows.ShardNilSaid :=
  OpenClaim.holds_of_wide 11 Tryz.f11 rfl rfl rfl rfl rfl rfl rfl ⟨rfl, rfl, rfl, rfl, rfl⟩ rfl rfl rfl rfl rfl q1 Tryz.func11 closed q3 q4
    (fun os started H enc _ => lifted os started H enc)
theorem noStand : [59].all (fun u => !Tryz.prog.wantsStandIn u) = true := by kernel_rfl
theorem shardNil_card : Rows.ShardNilCardSaid :=
  Claim7.holds_tied_plain_at .later [] [.data, .data, .data, .data, .pinned] true (true, "102c033f8d34e59f8166a0df85c5145a60013afccda034fc2756983eeaa91f60") true
    shardNil_row (fun _ h => by cases h) (by kernel_rfl) (fun _ h => by cases h) shardNil_row_tie rfl ⟨rfl, rfl⟩ (by kernel_rfl) rfl
    (fun f fn hf hfn => by
      obtain rfl : f = 11 := Option.some.inj (q1.symm.trans hf) |>.symm
      obtain rfl : fn = Tryz.f11 := (Option.some.inj (Tryz.func11.symm.trans hfn)).symm
      exact ⟨by kernel_rfl, fun j t ht => by
        rw [Tryz.params11] at ht
        have hm : t ∈ [59] := by simpa using Array.mem_of_getElem? ht
        exact (show Tryz.prog.wantsStandIn t = false by simpa using List.all_eq_true.1 noStand t hm)⟩)
    (by kernel_rfl)
end Go.Proofs.YtlogogdfmcdpfaaGreatDoor
