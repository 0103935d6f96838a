/-
  FeederTrees, the tied card: for every slice of nodes and every string the law returns true and its arguments read as before. Conditions: the five listed tables of Go's library read as the program's text lays them (tied by the given tie); what the variable bytealg.MaxLen holds is open.
-/
import Derived.Test.YtlogjgmfkjjhjaaGreatDoorX40
import Derived.Test.YtlogjgmfkjjhjaaGreatDoorTie
import Derived.Test.YtlogjgmfkjjhjaaGreatDoorCards
import Derived.SevenTiedAt
namespace Go.Proofs.YtlogjgmfkjjhjaaGreatDoor
open Go

theorem feederTreesCard_holds : Rows.FeederTreesCardSaid :=
  Claim7.holds_tied_plain_at .later [] [.data, .data, .data, .data, .pinned] true (true, "63d37c26bcbc76088645ac1e29fa9ea6e55bafd5795c9d3b3f633bb75ac3c142") false
    feederTrees_holds (fun _ h => by cases h) (by kernel_rfl) (fun _ h => by cases h) feederTrees_row_tie rfl ⟨rfl, rfl⟩ (by kernel_rfl) rfl
    (fun f fn hf hfn => by
      obtain rfl : f = 3 := Option.some.inj ((show Tryz.prog.funcNamed "combiner/combinerlaw06.FeederTrees" = some 3 by kernel_rfl).symm.trans hf) |>.symm
      obtain rfl : fn = Tryz.f3 := (Option.some.inj (Tryz.func3.symm.trans hfn)).symm
      exact ⟨by kernel_rfl, fun j t ht => by
        rw [Tryz.params3] at ht
        have h3 : t = 22 ∨ t = 9 := by
          rcases j with _ | _ | j
          · exact .inl (by simpa using ht.symm)
          · exact .inr (by simpa using ht.symm)
          · simp at ht
        rcases h3 with rfl | rfl
        · exact (show Tryz.prog.wantsStandIn 22 = false by kernel_rfl)
        · exact (show Tryz.prog.wantsStandIn 9 = false by kernel_rfl)⟩)
    (by kernel_rfl)
end Go.Proofs.YtlogjgmfkjjhjaaGreatDoor
