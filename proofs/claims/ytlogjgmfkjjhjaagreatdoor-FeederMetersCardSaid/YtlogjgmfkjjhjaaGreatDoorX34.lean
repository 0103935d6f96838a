/-
  The order of the last region of the law's guard: checked in pieces.
-/
import Derived.Test.YtlogjgmfkjjhjaaGreatDoorX02
set_option linter.unusedSimpArgs false
set_option linter.unusedVariables false
namespace Go.Proofs.YtlogjgmfkjjhjaaGreatDoor
open Go.RowKit

def chunkB (md : Region.Mode) (ops : Array Oper) (ac : List Nat) : List Nat → Array Bool → Bool
  | [], _ => true
  | i :: r, listed => (if ac.contains i = true then Region.ready md ops listed == [i] else (Region.ready md ops listed).contains i && Region.free md ops listed i) && chunkB md ops ac r (listed.setIfInBounds i true)
theorem planB_step {md : Region.Mode} {ops : Array Oper} {ac : List Nat} : ∀ (r1 : List Nat) {r2 : List Nat} {L L' : Array Bool}, chunkB md ops ac r1 L = true → r1.foldl (fun l i => l.setIfInBounds i true) L = L' → planB md ops ac r2 L' = true → planB md ops ac (r1 ++ r2) L = true
  | [], r2, L, L', _, h2, h3 => by subst h2; exact h3
  | i :: r, r2, L, L', h1, h2, h3 => by
    unfold chunkB at h1
    simp only [Bool.and_eq_true] at h1
    show planB md ops ac (i :: (r ++ r2)) L = true
    unfold planB
    simp only [Bool.and_eq_true]
    exact ⟨h1.1, planB_step r h1.2 h2 h3⟩
section
variable {P : Program} {Q : Exit → Act → World → Prop}
theorem wp_region_plan' {id : Nat} {a : Act} {w : World} (S : World → Prop) (ac plan : List Nat) {l : List Oper} (A : Array Oper) (hA : l.toArray = A) (hm : P.follows .mixedOrders = true)
    (h1 : Region.noSelect A = true) (h2 : (plan.length == A.size) = true) (h3 : planB .any A ac plan (Array.replicate A.size false) = true) (hS : S w.drew)
    (h : S w.drew → wpPlan P l.toArray Q S ac plan a w.drew) : (Code.region id l.toArray true).wp P Q a w := by
  subst hA
  exact wp_region_plan S ac plan hm (by rw [h1, h2, h3]; rfl) hS h
end
def tl : Code → Code
  | .seq _ c => c
  | c => c
noncomputable def aw29 : Array Oper := match tl (tl (tl (tl (tl (tl (tl (tl (tl (tl (tl (tl (tl (tl (tl (tl (tl (tl (tl (tl (tl (tl (tl (tl (tl (tl (tl (tl (Tryz.f7.body.getD .skip)))))))))))))))))))))))))))) with
  | .seq (.region _ ops _) _ => ops
  | _ => #[]
def aw29ac : List Nat := [67, 68, 69, 73, 74, 75, 79, 84, 88, 89, 90, 94, 95, 96, 100, 101, 102, 117, 119]
def lst (k : Nat) : Array Bool := (List.replicate k true ++ List.replicate (123 - k) false).toArray
set_option maxRecDepth 1000000
theorem aw29_size : aw29.size = 123 := by kernel_rfl
theorem aw29_sel : Region.noSelect aw29 = true := by kernel_rfl
theorem aw29_c0 : chunkB .any aw29 aw29ac [0, 1, 2, 3, 4, 5] (lst 0) = true := by kernel_rfl
theorem aw29_l0 : ([0, 1, 2, 3, 4, 5] : List Nat).foldl (fun l i => l.setIfInBounds i true) (lst 0) = lst 6 := by kernel_rfl
theorem aw29_c6 : chunkB .any aw29 aw29ac [6, 7, 8, 9, 10, 11] (lst 6) = true := by kernel_rfl
theorem aw29_l6 : ([6, 7, 8, 9, 10, 11] : List Nat).foldl (fun l i => l.setIfInBounds i true) (lst 6) = lst 12 := by kernel_rfl
theorem aw29_c12 : chunkB .any aw29 aw29ac [12, 13, 14, 15, 16, 17] (lst 12) = true := by kernel_rfl
theorem aw29_l12 : ([12, 13, 14, 15, 16, 17] : List Nat).foldl (fun l i => l.setIfInBounds i true) (lst 12) = lst 18 := by kernel_rfl
theorem aw29_c18 : chunkB .any aw29 aw29ac [18, 19, 20, 21, 22, 23] (lst 18) = true := by kernel_rfl
theorem aw29_l18 : ([18, 19, 20, 21, 22, 23] : List Nat).foldl (fun l i => l.setIfInBounds i true) (lst 18) = lst 24 := by kernel_rfl
theorem aw29_c24 : chunkB .any aw29 aw29ac [24, 25, 26, 27, 28, 29] (lst 24) = true := by kernel_rfl
theorem aw29_l24 : ([24, 25, 26, 27, 28, 29] : List Nat).foldl (fun l i => l.setIfInBounds i true) (lst 24) = lst 30 := by kernel_rfl
theorem aw29_c30 : chunkB .any aw29 aw29ac [30, 31, 32, 33, 34, 35] (lst 30) = true := by kernel_rfl
theorem aw29_l30 : ([30, 31, 32, 33, 34, 35] : List Nat).foldl (fun l i => l.setIfInBounds i true) (lst 30) = lst 36 := by kernel_rfl
theorem aw29_c36 : chunkB .any aw29 aw29ac [36, 37, 38, 39, 40, 41] (lst 36) = true := by kernel_rfl
theorem aw29_l36 : ([36, 37, 38, 39, 40, 41] : List Nat).foldl (fun l i => l.setIfInBounds i true) (lst 36) = lst 42 := by kernel_rfl
theorem aw29_c42 : chunkB .any aw29 aw29ac [42, 43, 44, 45, 46, 47] (lst 42) = true := by kernel_rfl
theorem aw29_l42 : ([42, 43, 44, 45, 46, 47] : List Nat).foldl (fun l i => l.setIfInBounds i true) (lst 42) = lst 48 := by kernel_rfl
theorem aw29_c48 : chunkB .any aw29 aw29ac [48, 49, 50, 51, 52, 53] (lst 48) = true := by kernel_rfl
theorem aw29_l48 : ([48, 49, 50, 51, 52, 53] : List Nat).foldl (fun l i => l.setIfInBounds i true) (lst 48) = lst 54 := by kernel_rfl
theorem aw29_c54 : chunkB .any aw29 aw29ac [54, 55, 56, 57, 58, 59] (lst 54) = true := by kernel_rfl
theorem aw29_l54 : ([54, 55, 56, 57, 58, 59] : List Nat).foldl (fun l i => l.setIfInBounds i true) (lst 54) = lst 60 := by kernel_rfl
theorem aw29_c60 : chunkB .any aw29 aw29ac [60, 61, 62, 63, 64, 65] (lst 60) = true := by kernel_rfl
theorem aw29_l60 : ([60, 61, 62, 63, 64, 65] : List Nat).foldl (fun l i => l.setIfInBounds i true) (lst 60) = lst 66 := by kernel_rfl
theorem aw29_c66 : chunkB .any aw29 aw29ac [66, 67, 68, 69, 70, 71] (lst 66) = true := by kernel_rfl
theorem aw29_l66 : ([66, 67, 68, 69, 70, 71] : List Nat).foldl (fun l i => l.setIfInBounds i true) (lst 66) = lst 72 := by kernel_rfl
theorem aw29_c72 : chunkB .any aw29 aw29ac [72, 73, 74, 75, 76, 77] (lst 72) = true := by kernel_rfl
theorem aw29_l72 : ([72, 73, 74, 75, 76, 77] : List Nat).foldl (fun l i => l.setIfInBounds i true) (lst 72) = lst 78 := by kernel_rfl
theorem aw29_c78 : chunkB .any aw29 aw29ac [78, 79, 80, 81, 82, 83] (lst 78) = true := by kernel_rfl
theorem aw29_l78 : ([78, 79, 80, 81, 82, 83] : List Nat).foldl (fun l i => l.setIfInBounds i true) (lst 78) = lst 84 := by kernel_rfl
theorem aw29_c84 : chunkB .any aw29 aw29ac [84, 85, 86, 87, 88, 89] (lst 84) = true := by kernel_rfl
theorem aw29_l84 : ([84, 85, 86, 87, 88, 89] : List Nat).foldl (fun l i => l.setIfInBounds i true) (lst 84) = lst 90 := by kernel_rfl
theorem aw29_c90 : chunkB .any aw29 aw29ac [90, 91, 92, 93, 94, 95] (lst 90) = true := by kernel_rfl
theorem aw29_l90 : ([90, 91, 92, 93, 94, 95] : List Nat).foldl (fun l i => l.setIfInBounds i true) (lst 90) = lst 96 := by kernel_rfl
theorem aw29_c96 : chunkB .any aw29 aw29ac [96, 97, 98, 99, 100, 101] (lst 96) = true := by kernel_rfl
theorem aw29_l96 : ([96, 97, 98, 99, 100, 101] : List Nat).foldl (fun l i => l.setIfInBounds i true) (lst 96) = lst 102 := by kernel_rfl
theorem aw29_c102 : chunkB .any aw29 aw29ac [102, 103, 104, 105, 106, 107] (lst 102) = true := by kernel_rfl
theorem aw29_l102 : ([102, 103, 104, 105, 106, 107] : List Nat).foldl (fun l i => l.setIfInBounds i true) (lst 102) = lst 108 := by kernel_rfl
theorem aw29_c108 : chunkB .any aw29 aw29ac [108, 109, 110, 111, 112, 113] (lst 108) = true := by kernel_rfl
theorem aw29_l108 : ([108, 109, 110, 111, 112, 113] : List Nat).foldl (fun l i => l.setIfInBounds i true) (lst 108) = lst 114 := by kernel_rfl
theorem aw29_c114 : chunkB .any aw29 aw29ac [114, 115, 116, 117, 118, 119] (lst 114) = true := by kernel_rfl
theorem aw29_l114 : ([114, 115, 116, 117, 118, 119] : List Nat).foldl (fun l i => l.setIfInBounds i true) (lst 114) = lst 120 := by kernel_rfl
theorem aw29_c120 : chunkB .any aw29 aw29ac [120, 121, 122] (lst 120) = true := by kernel_rfl
theorem aw29_l120 : ([120, 121, 122] : List Nat).foldl (fun l i => l.setIfInBounds i true) (lst 120) = lst 123 := by kernel_rfl
theorem aw29_p123 : planB .any aw29 aw29ac [] (lst 123) = true := by kernel_rfl
theorem aw29_p120 : planB .any aw29 aw29ac (120 :: 121 :: 122 :: []) (lst 120) = true := planB_step [120, 121, 122] aw29_c120 aw29_l120 aw29_p123
theorem aw29_p114 : planB .any aw29 aw29ac (114 :: 115 :: 116 :: 117 :: 118 :: 119 :: 120 :: 121 :: 122 :: []) (lst 114) = true := planB_step [114, 115, 116, 117, 118, 119] aw29_c114 aw29_l114 aw29_p120
theorem aw29_p108 : planB .any aw29 aw29ac (108 :: 109 :: 110 :: 111 :: 112 :: 113 :: 114 :: 115 :: 116 :: 117 :: 118 :: 119 :: 120 :: 121 :: 122 :: []) (lst 108) = true := planB_step [108, 109, 110, 111, 112, 113] aw29_c108 aw29_l108 aw29_p114
theorem aw29_p102 : planB .any aw29 aw29ac (102 :: 103 :: 104 :: 105 :: 106 :: 107 :: 108 :: 109 :: 110 :: 111 :: 112 :: 113 :: 114 :: 115 :: 116 :: 117 :: 118 :: 119 :: 120 :: 121 :: 122 :: []) (lst 102) = true := planB_step [102, 103, 104, 105, 106, 107] aw29_c102 aw29_l102 aw29_p108
theorem aw29_p96 : planB .any aw29 aw29ac (96 :: 97 :: 98 :: 99 :: 100 :: 101 :: 102 :: 103 :: 104 :: 105 :: 106 :: 107 :: 108 :: 109 :: 110 :: 111 :: 112 :: 113 :: 114 :: 115 :: 116 :: 117 :: 118 :: 119 :: 120 :: 121 :: 122 :: []) (lst 96) = true := planB_step [96, 97, 98, 99, 100, 101] aw29_c96 aw29_l96 aw29_p102
theorem aw29_p90 : planB .any aw29 aw29ac (90 :: 91 :: 92 :: 93 :: 94 :: 95 :: 96 :: 97 :: 98 :: 99 :: 100 :: 101 :: 102 :: 103 :: 104 :: 105 :: 106 :: 107 :: 108 :: 109 :: 110 :: 111 :: 112 :: 113 :: 114 :: 115 :: 116 :: 117 :: 118 :: 119 :: 120 :: 121 :: 122 :: []) (lst 90) = true := planB_step [90, 91, 92, 93, 94, 95] aw29_c90 aw29_l90 aw29_p96
theorem aw29_p84 : planB .any aw29 aw29ac (84 :: 85 :: 86 :: 87 :: 88 :: 89 :: 90 :: 91 :: 92 :: 93 :: 94 :: 95 :: 96 :: 97 :: 98 :: 99 :: 100 :: 101 :: 102 :: 103 :: 104 :: 105 :: 106 :: 107 :: 108 :: 109 :: 110 :: 111 :: 112 :: 113 :: 114 :: 115 :: 116 :: 117 :: 118 :: 119 :: 120 :: 121 :: 122 :: []) (lst 84) = true := planB_step [84, 85, 86, 87, 88, 89] aw29_c84 aw29_l84 aw29_p90
theorem aw29_p78 : planB .any aw29 aw29ac (78 :: 79 :: 80 :: 81 :: 82 :: 83 :: 84 :: 85 :: 86 :: 87 :: 88 :: 89 :: 90 :: 91 :: 92 :: 93 :: 94 :: 95 :: 96 :: 97 :: 98 :: 99 :: 100 :: 101 :: 102 :: 103 :: 104 :: 105 :: 106 :: 107 :: 108 :: 109 :: 110 :: 111 :: 112 :: 113 :: 114 :: 115 :: 116 :: 117 :: 118 :: 119 :: 120 :: 121 :: 122 :: []) (lst 78) = true := planB_step [78, 79, 80, 81, 82, 83] aw29_c78 aw29_l78 aw29_p84
theorem aw29_p72 : planB .any aw29 aw29ac (72 :: 73 :: 74 :: 75 :: 76 :: 77 :: 78 :: 79 :: 80 :: 81 :: 82 :: 83 :: 84 :: 85 :: 86 :: 87 :: 88 :: 89 :: 90 :: 91 :: 92 :: 93 :: 94 :: 95 :: 96 :: 97 :: 98 :: 99 :: 100 :: 101 :: 102 :: 103 :: 104 :: 105 :: 106 :: 107 :: 108 :: 109 :: 110 :: 111 :: 112 :: 113 :: 114 :: 115 :: 116 :: 117 :: 118 :: 119 :: 120 :: 121 :: 122 :: []) (lst 72) = true := planB_step [72, 73, 74, 75, 76, 77] aw29_c72 aw29_l72 aw29_p78
theorem aw29_p66 : planB .any aw29 aw29ac (66 :: 67 :: 68 :: 69 :: 70 :: 71 :: 72 :: 73 :: 74 :: 75 :: 76 :: 77 :: 78 :: 79 :: 80 :: 81 :: 82 :: 83 :: 84 :: 85 :: 86 :: 87 :: 88 :: 89 :: 90 :: 91 :: 92 :: 93 :: 94 :: 95 :: 96 :: 97 :: 98 :: 99 :: 100 :: 101 :: 102 :: 103 :: 104 :: 105 :: 106 :: 107 :: 108 :: 109 :: 110 :: 111 :: 112 :: 113 :: 114 :: 115 :: 116 :: 117 :: 118 :: 119 :: 120 :: 121 :: 122 :: []) (lst 66) = true := planB_step [66, 67, 68, 69, 70, 71] aw29_c66 aw29_l66 aw29_p72
theorem aw29_p60 : planB .any aw29 aw29ac (60 :: 61 :: 62 :: 63 :: 64 :: 65 :: 66 :: 67 :: 68 :: 69 :: 70 :: 71 :: 72 :: 73 :: 74 :: 75 :: 76 :: 77 :: 78 :: 79 :: 80 :: 81 :: 82 :: 83 :: 84 :: 85 :: 86 :: 87 :: 88 :: 89 :: 90 :: 91 :: 92 :: 93 :: 94 :: 95 :: 96 :: 97 :: 98 :: 99 :: 100 :: 101 :: 102 :: 103 :: 104 :: 105 :: 106 :: 107 :: 108 :: 109 :: 110 :: 111 :: 112 :: 113 :: 114 :: 115 :: 116 :: 117 :: 118 :: 119 :: 120 :: 121 :: 122 :: []) (lst 60) = true := planB_step [60, 61, 62, 63, 64, 65] aw29_c60 aw29_l60 aw29_p66
theorem aw29_p54 : planB .any aw29 aw29ac (54 :: 55 :: 56 :: 57 :: 58 :: 59 :: 60 :: 61 :: 62 :: 63 :: 64 :: 65 :: 66 :: 67 :: 68 :: 69 :: 70 :: 71 :: 72 :: 73 :: 74 :: 75 :: 76 :: 77 :: 78 :: 79 :: 80 :: 81 :: 82 :: 83 :: 84 :: 85 :: 86 :: 87 :: 88 :: 89 :: 90 :: 91 :: 92 :: 93 :: 94 :: 95 :: 96 :: 97 :: 98 :: 99 :: 100 :: 101 :: 102 :: 103 :: 104 :: 105 :: 106 :: 107 :: 108 :: 109 :: 110 :: 111 :: 112 :: 113 :: 114 :: 115 :: 116 :: 117 :: 118 :: 119 :: 120 :: 121 :: 122 :: []) (lst 54) = true := planB_step [54, 55, 56, 57, 58, 59] aw29_c54 aw29_l54 aw29_p60
theorem aw29_p48 : planB .any aw29 aw29ac (48 :: 49 :: 50 :: 51 :: 52 :: 53 :: 54 :: 55 :: 56 :: 57 :: 58 :: 59 :: 60 :: 61 :: 62 :: 63 :: 64 :: 65 :: 66 :: 67 :: 68 :: 69 :: 70 :: 71 :: 72 :: 73 :: 74 :: 75 :: 76 :: 77 :: 78 :: 79 :: 80 :: 81 :: 82 :: 83 :: 84 :: 85 :: 86 :: 87 :: 88 :: 89 :: 90 :: 91 :: 92 :: 93 :: 94 :: 95 :: 96 :: 97 :: 98 :: 99 :: 100 :: 101 :: 102 :: 103 :: 104 :: 105 :: 106 :: 107 :: 108 :: 109 :: 110 :: 111 :: 112 :: 113 :: 114 :: 115 :: 116 :: 117 :: 118 :: 119 :: 120 :: 121 :: 122 :: []) (lst 48) = true := planB_step [48, 49, 50, 51, 52, 53] aw29_c48 aw29_l48 aw29_p54
theorem aw29_p42 : planB .any aw29 aw29ac (42 :: 43 :: 44 :: 45 :: 46 :: 47 :: 48 :: 49 :: 50 :: 51 :: 52 :: 53 :: 54 :: 55 :: 56 :: 57 :: 58 :: 59 :: 60 :: 61 :: 62 :: 63 :: 64 :: 65 :: 66 :: 67 :: 68 :: 69 :: 70 :: 71 :: 72 :: 73 :: 74 :: 75 :: 76 :: 77 :: 78 :: 79 :: 80 :: 81 :: 82 :: 83 :: 84 :: 85 :: 86 :: 87 :: 88 :: 89 :: 90 :: 91 :: 92 :: 93 :: 94 :: 95 :: 96 :: 97 :: 98 :: 99 :: 100 :: 101 :: 102 :: 103 :: 104 :: 105 :: 106 :: 107 :: 108 :: 109 :: 110 :: 111 :: 112 :: 113 :: 114 :: 115 :: 116 :: 117 :: 118 :: 119 :: 120 :: 121 :: 122 :: []) (lst 42) = true := planB_step [42, 43, 44, 45, 46, 47] aw29_c42 aw29_l42 aw29_p48
theorem aw29_p36 : planB .any aw29 aw29ac (36 :: 37 :: 38 :: 39 :: 40 :: 41 :: 42 :: 43 :: 44 :: 45 :: 46 :: 47 :: 48 :: 49 :: 50 :: 51 :: 52 :: 53 :: 54 :: 55 :: 56 :: 57 :: 58 :: 59 :: 60 :: 61 :: 62 :: 63 :: 64 :: 65 :: 66 :: 67 :: 68 :: 69 :: 70 :: 71 :: 72 :: 73 :: 74 :: 75 :: 76 :: 77 :: 78 :: 79 :: 80 :: 81 :: 82 :: 83 :: 84 :: 85 :: 86 :: 87 :: 88 :: 89 :: 90 :: 91 :: 92 :: 93 :: 94 :: 95 :: 96 :: 97 :: 98 :: 99 :: 100 :: 101 :: 102 :: 103 :: 104 :: 105 :: 106 :: 107 :: 108 :: 109 :: 110 :: 111 :: 112 :: 113 :: 114 :: 115 :: 116 :: 117 :: 118 :: 119 :: 120 :: 121 :: 122 :: []) (lst 36) = true := planB_step [36, 37, 38, 39, 40, 41] aw29_c36 aw29_l36 aw29_p42
theorem aw29_p30 : planB .any aw29 aw29ac (30 :: 31 :: 32 :: 33 :: 34 :: 35 :: 36 :: 37 :: 38 :: 39 :: 40 :: 41 :: 42 :: 43 :: 44 :: 45 :: 46 :: 47 :: 48 :: 49 :: 50 :: 51 :: 52 :: 53 :: 54 :: 55 :: 56 :: 57 :: 58 :: 59 :: 60 :: 61 :: 62 :: 63 :: 64 :: 65 :: 66 :: 67 :: 68 :: 69 :: 70 :: 71 :: 72 :: 73 :: 74 :: 75 :: 76 :: 77 :: 78 :: 79 :: 80 :: 81 :: 82 :: 83 :: 84 :: 85 :: 86 :: 87 :: 88 :: 89 :: 90 :: 91 :: 92 :: 93 :: 94 :: 95 :: 96 :: 97 :: 98 :: 99 :: 100 :: 101 :: 102 :: 103 :: 104 :: 105 :: 106 :: 107 :: 108 :: 109 :: 110 :: 111 :: 112 :: 113 :: 114 :: 115 :: 116 :: 117 :: 118 :: 119 :: 120 :: 121 :: 122 :: []) (lst 30) = true := planB_step [30, 31, 32, 33, 34, 35] aw29_c30 aw29_l30 aw29_p36
theorem aw29_p24 : planB .any aw29 aw29ac (24 :: 25 :: 26 :: 27 :: 28 :: 29 :: 30 :: 31 :: 32 :: 33 :: 34 :: 35 :: 36 :: 37 :: 38 :: 39 :: 40 :: 41 :: 42 :: 43 :: 44 :: 45 :: 46 :: 47 :: 48 :: 49 :: 50 :: 51 :: 52 :: 53 :: 54 :: 55 :: 56 :: 57 :: 58 :: 59 :: 60 :: 61 :: 62 :: 63 :: 64 :: 65 :: 66 :: 67 :: 68 :: 69 :: 70 :: 71 :: 72 :: 73 :: 74 :: 75 :: 76 :: 77 :: 78 :: 79 :: 80 :: 81 :: 82 :: 83 :: 84 :: 85 :: 86 :: 87 :: 88 :: 89 :: 90 :: 91 :: 92 :: 93 :: 94 :: 95 :: 96 :: 97 :: 98 :: 99 :: 100 :: 101 :: 102 :: 103 :: 104 :: 105 :: 106 :: 107 :: 108 :: 109 :: 110 :: 111 :: 112 :: 113 :: 114 :: 115 :: 116 :: 117 :: 118 :: 119 :: 120 :: 121 :: 122 :: []) (lst 24) = true := planB_step [24, 25, 26, 27, 28, 29] aw29_c24 aw29_l24 aw29_p30
theorem aw29_p18 : planB .any aw29 aw29ac (18 :: 19 :: 20 :: 21 :: 22 :: 23 :: 24 :: 25 :: 26 :: 27 :: 28 :: 29 :: 30 :: 31 :: 32 :: 33 :: 34 :: 35 :: 36 :: 37 :: 38 :: 39 :: 40 :: 41 :: 42 :: 43 :: 44 :: 45 :: 46 :: 47 :: 48 :: 49 :: 50 :: 51 :: 52 :: 53 :: 54 :: 55 :: 56 :: 57 :: 58 :: 59 :: 60 :: 61 :: 62 :: 63 :: 64 :: 65 :: 66 :: 67 :: 68 :: 69 :: 70 :: 71 :: 72 :: 73 :: 74 :: 75 :: 76 :: 77 :: 78 :: 79 :: 80 :: 81 :: 82 :: 83 :: 84 :: 85 :: 86 :: 87 :: 88 :: 89 :: 90 :: 91 :: 92 :: 93 :: 94 :: 95 :: 96 :: 97 :: 98 :: 99 :: 100 :: 101 :: 102 :: 103 :: 104 :: 105 :: 106 :: 107 :: 108 :: 109 :: 110 :: 111 :: 112 :: 113 :: 114 :: 115 :: 116 :: 117 :: 118 :: 119 :: 120 :: 121 :: 122 :: []) (lst 18) = true := planB_step [18, 19, 20, 21, 22, 23] aw29_c18 aw29_l18 aw29_p24
theorem aw29_p12 : planB .any aw29 aw29ac (12 :: 13 :: 14 :: 15 :: 16 :: 17 :: 18 :: 19 :: 20 :: 21 :: 22 :: 23 :: 24 :: 25 :: 26 :: 27 :: 28 :: 29 :: 30 :: 31 :: 32 :: 33 :: 34 :: 35 :: 36 :: 37 :: 38 :: 39 :: 40 :: 41 :: 42 :: 43 :: 44 :: 45 :: 46 :: 47 :: 48 :: 49 :: 50 :: 51 :: 52 :: 53 :: 54 :: 55 :: 56 :: 57 :: 58 :: 59 :: 60 :: 61 :: 62 :: 63 :: 64 :: 65 :: 66 :: 67 :: 68 :: 69 :: 70 :: 71 :: 72 :: 73 :: 74 :: 75 :: 76 :: 77 :: 78 :: 79 :: 80 :: 81 :: 82 :: 83 :: 84 :: 85 :: 86 :: 87 :: 88 :: 89 :: 90 :: 91 :: 92 :: 93 :: 94 :: 95 :: 96 :: 97 :: 98 :: 99 :: 100 :: 101 :: 102 :: 103 :: 104 :: 105 :: 106 :: 107 :: 108 :: 109 :: 110 :: 111 :: 112 :: 113 :: 114 :: 115 :: 116 :: 117 :: 118 :: 119 :: 120 :: 121 :: 122 :: []) (lst 12) = true := planB_step [12, 13, 14, 15, 16, 17] aw29_c12 aw29_l12 aw29_p18
theorem aw29_p6 : planB .any aw29 aw29ac (6 :: 7 :: 8 :: 9 :: 10 :: 11 :: 12 :: 13 :: 14 :: 15 :: 16 :: 17 :: 18 :: 19 :: 20 :: 21 :: 22 :: 23 :: 24 :: 25 :: 26 :: 27 :: 28 :: 29 :: 30 :: 31 :: 32 :: 33 :: 34 :: 35 :: 36 :: 37 :: 38 :: 39 :: 40 :: 41 :: 42 :: 43 :: 44 :: 45 :: 46 :: 47 :: 48 :: 49 :: 50 :: 51 :: 52 :: 53 :: 54 :: 55 :: 56 :: 57 :: 58 :: 59 :: 60 :: 61 :: 62 :: 63 :: 64 :: 65 :: 66 :: 67 :: 68 :: 69 :: 70 :: 71 :: 72 :: 73 :: 74 :: 75 :: 76 :: 77 :: 78 :: 79 :: 80 :: 81 :: 82 :: 83 :: 84 :: 85 :: 86 :: 87 :: 88 :: 89 :: 90 :: 91 :: 92 :: 93 :: 94 :: 95 :: 96 :: 97 :: 98 :: 99 :: 100 :: 101 :: 102 :: 103 :: 104 :: 105 :: 106 :: 107 :: 108 :: 109 :: 110 :: 111 :: 112 :: 113 :: 114 :: 115 :: 116 :: 117 :: 118 :: 119 :: 120 :: 121 :: 122 :: []) (lst 6) = true := planB_step [6, 7, 8, 9, 10, 11] aw29_c6 aw29_l6 aw29_p12
theorem aw29_p0 : planB .any aw29 aw29ac (0 :: 1 :: 2 :: 3 :: 4 :: 5 :: 6 :: 7 :: 8 :: 9 :: 10 :: 11 :: 12 :: 13 :: 14 :: 15 :: 16 :: 17 :: 18 :: 19 :: 20 :: 21 :: 22 :: 23 :: 24 :: 25 :: 26 :: 27 :: 28 :: 29 :: 30 :: 31 :: 32 :: 33 :: 34 :: 35 :: 36 :: 37 :: 38 :: 39 :: 40 :: 41 :: 42 :: 43 :: 44 :: 45 :: 46 :: 47 :: 48 :: 49 :: 50 :: 51 :: 52 :: 53 :: 54 :: 55 :: 56 :: 57 :: 58 :: 59 :: 60 :: 61 :: 62 :: 63 :: 64 :: 65 :: 66 :: 67 :: 68 :: 69 :: 70 :: 71 :: 72 :: 73 :: 74 :: 75 :: 76 :: 77 :: 78 :: 79 :: 80 :: 81 :: 82 :: 83 :: 84 :: 85 :: 86 :: 87 :: 88 :: 89 :: 90 :: 91 :: 92 :: 93 :: 94 :: 95 :: 96 :: 97 :: 98 :: 99 :: 100 :: 101 :: 102 :: 103 :: 104 :: 105 :: 106 :: 107 :: 108 :: 109 :: 110 :: 111 :: 112 :: 113 :: 114 :: 115 :: 116 :: 117 :: 118 :: 119 :: 120 :: 121 :: 122 :: []) (lst 0) = true := planB_step [0, 1, 2, 3, 4, 5] aw29_c0 aw29_l0 aw29_p6
theorem aw29_plan : planB .any aw29 aw29ac (0 :: 1 :: 2 :: 3 :: 4 :: 5 :: 6 :: 7 :: 8 :: 9 :: 10 :: 11 :: 12 :: 13 :: 14 :: 15 :: 16 :: 17 :: 18 :: 19 :: 20 :: 21 :: 22 :: 23 :: 24 :: 25 :: 26 :: 27 :: 28 :: 29 :: 30 :: 31 :: 32 :: 33 :: 34 :: 35 :: 36 :: 37 :: 38 :: 39 :: 40 :: 41 :: 42 :: 43 :: 44 :: 45 :: 46 :: 47 :: 48 :: 49 :: 50 :: 51 :: 52 :: 53 :: 54 :: 55 :: 56 :: 57 :: 58 :: 59 :: 60 :: 61 :: 62 :: 63 :: 64 :: 65 :: 66 :: 67 :: 68 :: 69 :: 70 :: 71 :: 72 :: 73 :: 74 :: 75 :: 76 :: 77 :: 78 :: 79 :: 80 :: 81 :: 82 :: 83 :: 84 :: 85 :: 86 :: 87 :: 88 :: 89 :: 90 :: 91 :: 92 :: 93 :: 94 :: 95 :: 96 :: 97 :: 98 :: 99 :: 100 :: 101 :: 102 :: 103 :: 104 :: 105 :: 106 :: 107 :: 108 :: 109 :: 110 :: 111 :: 112 :: 113 :: 114 :: 115 :: 116 :: 117 :: 118 :: 119 :: 120 :: 121 :: 122 :: []) (Array.replicate aw29.size false) = true := by
  rw [aw29_size, show (Array.replicate 123 false : Array Bool) = lst 0 from by kernel_rfl]
  exact aw29_p0
end Go.Proofs.YtlogjgmfkjjhjaaGreatDoor
