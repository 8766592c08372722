/- Ly So Mb Mu Ti Rp Sr Si Cl Es Ix of the seat's texts, in this order. -/
import Derived.Test.YtdackakjcnnofaaProg
import Derived.Shelf.SlLaysF
import Derived.Shelf.SlLaysF0
import Derived.Shelf.SlLaysM
import Derived.Test.YtdackakjcnnofaaA3
import Derived.Shelf.SlSortCmp.NoneTotal
import Derived.Sort.Grow
import Derived.Test.YtdackakjcnnofaaA2
import Derived.Laws.CopyOwn
import Derived.Deep.OwnRows
import Derived.IntWalk
import Derived.Shelf.SortM.Plain
import Derived.Sort.OwnSortedInts

/- Contracts of Go's library that the kit's shelf lays for this program, in plain words. -/
namespace Go.Proofs.Ytdackakjcnnofaa
open Go.Shelf
def layI_ren : Go.Shelf.Ren := ⟨fun | 5 => 31 | 8 => 53 | 7 => 52 | 19 => 74 | 20 => 75 | 10 => 65 | 11 => 66 | 12 => 67 | 13 => 68 | 14 => 69 | 15 => 70 | 16 => 71 | 17 => 72 | 18 => 73 | 30 => 97 | 31 => 98 | 32 => 99 | 33 => 100 | 34 => 101 | 35 => 47 | 40 => 110 | n => n, fun | 23 => 28 | 25 => 3 | 3 => 3 | 32 => 79 | 22 => 28 | 0 => 0 | 44 => 96 | 46 => 98 | 4 => 4 | 36 => 88 | 35 => 87 | 41 => 93 | 5 => 5 | 9 => 9 | 53 => 114 | 57 => 118 | 63 => 128 | 64 => 129 | n => n, fun | n => n⟩
theorem layI : Go.Proofs.SlLaysM.n5 Try.prog layI_ren := {
  mixed := by kernel_rfl,
  f5 := ⟨Try.f31.name, by decide, Try.func31.trans (congrArg some (by kernel_rfl))⟩,
  f7 := ⟨Try.f52.name, by decide, Try.func52.trans (congrArg some (by kernel_rfl))⟩,
  f8 := Try.func53.trans (congrArg some (by kernel_rfl)),
  f10 := ⟨Try.f65.name, by decide, Try.func65.trans (congrArg some (by kernel_rfl))⟩,
  f11 := ⟨Try.f66.name, by decide, Try.func66.trans (congrArg some (by kernel_rfl))⟩,
  f12 := ⟨Try.f67.name, by decide, Try.func67.trans (congrArg some (by kernel_rfl))⟩,
  f13 := ⟨Try.f68.name, by decide, Try.func68.trans (congrArg some (by kernel_rfl))⟩,
  f14 := ⟨Try.f69.name, by decide, Try.func69.trans (congrArg some (by kernel_rfl))⟩,
  f15 := ⟨Try.f70.name, by decide, Try.func70.trans (congrArg some (by kernel_rfl))⟩,
  f16 := ⟨Try.f71.name, by decide, Try.func71.trans (congrArg some (by kernel_rfl))⟩,
  f17 := ⟨Try.f72.name, by decide, Try.func72.trans (congrArg some (by kernel_rfl))⟩,
  f18 := ⟨Try.f73.name, by decide, Try.func73.trans (congrArg some (by kernel_rfl))⟩,
  f19 := Try.func74.trans (congrArg some (by kernel_rfl)),
  f20 := Try.func75.trans (congrArg some (by kernel_rfl)),
  f30 := ⟨Try.f97.name, by decide, Try.func97.trans (congrArg some (by kernel_rfl))⟩,
  f31 := Try.func98.trans (congrArg some (by kernel_rfl)),
  f32 := Try.func99.trans (congrArg some (by kernel_rfl)),
  f33 := ⟨Try.f100.name, by decide, Try.func100.trans (congrArg some (by kernel_rfl))⟩,
  f34 := ⟨Try.f101.name, by decide, Try.func101.trans (congrArg some (by kernel_rfl))⟩,
  f35 := ⟨Try.f47.name, by decide, Try.func47.trans (congrArg some (by kernel_rfl))⟩,
  f40 := ⟨Try.f110.name, by decide, Try.func110.trans (congrArg some (by kernel_rfl))⟩,
  t0 := Try.underlying0,
  a0 := Try.isAgg0,
  z0 := Try.sizeOf0,
  v0 := Try.zeroValue0,
  t3 := Try.underlying3,
  a3 := Try.isAgg3,
  z3 := Try.sizeOf3,
  v3 := Try.zeroValue3,
  t4 := Try.underlying4,
  a4 := Try.isAgg4,
  z4 := Try.sizeOf4,
  v4 := Try.zeroValue4,
  t5 := Try.underlying5,
  a5 := Try.isAgg5,
  z5 := Try.sizeOf5,
  v5 := Try.zeroValue5,
  t9 := Try.underlying9,
  a9 := Try.isAgg9,
  z9 := Try.sizeOf9,
  v9 := Try.zeroValue9,
  t22 := Try.underlying28,
  a22 := Try.isAgg28,
  z22 := Try.sizeOf28,
  v22 := Try.zeroValue28,
  t23 := Try.underlying28,
  a23 := Try.isAgg28,
  z23 := Try.sizeOf28,
  v23 := Try.zeroValue28,
  t25 := Try.underlying3,
  a25 := Try.isAgg3,
  z25 := Try.sizeOf3,
  v25 := Try.zeroValue3,
  t32 := Try.underlying79,
  a32 := Try.isAgg79,
  z32 := Try.sizeOf79,
  v32 := Try.zeroValue79,
  t35 := Try.underlying87,
  a35 := Try.isAgg87,
  z35 := Try.sizeOf87,
  v35 := Try.zeroValue87,
  t36 := Try.underlying88,
  a36 := Try.isAgg88,
  z36 := Try.sizeOf88,
  v36 := Try.zeroValue88,
  t41 := Try.underlying93,
  a41 := Try.isAgg93,
  z41 := Try.sizeOf93,
  v41 := Try.zeroValue93,
  t44 := Try.underlying96,
  a44 := Try.isAgg96,
  z44 := Try.sizeOf96,
  v44 := Try.zeroValue96,
  t46 := Try.underlying98,
  a46 := Try.isAgg98,
  z46 := Try.sizeOf98,
  v46 := Try.zeroValue98,
  t53 := Try.underlying114,
  a53 := Try.isAgg114,
  z53 := Try.sizeOf114,
  v53 := Try.zeroValue114,
  t57 := Try.underlying118,
  a57 := Try.isAgg118,
  z57 := Try.sizeOf118,
  v57 := Try.zeroValue118,
  t63 := Try.underlying128,
  a63 := Try.isAgg128,
  z63 := Try.sizeOf128,
  v63 := Try.zeroValue128,
  t64 := Try.underlying129,
  a64 := Try.isAgg129,
  z64 := Try.sizeOf129,
  v64 := Try.zeroValue129 }
def layP_ren : Go.Shelf.Ren := ⟨fun | 6 => 35 | 15 => 53 | 14 => 54 | 28 => 74 | 29 => 75 | 20 => 76 | 21 => 77 | 22 => 78 | 23 => 79 | 24 => 80 | 25 => 81 | 26 => 82 | 27 => 83 | 46 => 102 | 47 => 98 | 48 => 99 | 49 => 103 | 50 => 104 | 57 => 111 | n => n, fun | 22 => 49 | 24 => 54 | 25 => 65 | 3 => 3 | 39 => 79 | 0 => 0 | 53 => 96 | 55 => 98 | 4 => 4 | 46 => 88 | 45 => 87 | 50 => 93 | 5 => 5 | 9 => 9 | 66 => 114 | 70 => 118 | 76 => 128 | 77 => 129 | n => n, fun | n => n⟩
theorem layP : Go.Proofs.SlLaysF0.n6 Try.prog layP_ren := {
  mixed := by kernel_rfl,
  f6 := ⟨Try.f35.name, by decide, Try.func35.trans (congrArg some (by kernel_rfl))⟩,
  f14 := ⟨Try.f54.name, by decide, Try.func54.trans (congrArg some (by kernel_rfl))⟩,
  f15 := Try.func53.trans (congrArg some (by kernel_rfl)),
  f20 := ⟨Try.f76.name, by decide, Try.func76.trans (congrArg some (by kernel_rfl))⟩,
  f21 := ⟨Try.f77.name, by decide, Try.func77.trans (congrArg some (by kernel_rfl))⟩,
  f22 := ⟨Try.f78.name, by decide, Try.func78.trans (congrArg some (by kernel_rfl))⟩,
  f23 := ⟨Try.f79.name, by decide, Try.func79.trans (congrArg some (by kernel_rfl))⟩,
  f24 := ⟨Try.f80.name, by decide, Try.func80.trans (congrArg some (by kernel_rfl))⟩,
  f25 := ⟨Try.f81.name, by decide, Try.func81.trans (congrArg some (by kernel_rfl))⟩,
  f26 := ⟨Try.f82.name, by decide, Try.func82.trans (congrArg some (by kernel_rfl))⟩,
  f27 := ⟨Try.f83.name, by decide, Try.func83.trans (congrArg some (by kernel_rfl))⟩,
  f28 := Try.func74.trans (congrArg some (by kernel_rfl)),
  f29 := Try.func75.trans (congrArg some (by kernel_rfl)),
  f46 := ⟨Try.f102.name, by decide, Try.func102.trans (congrArg some (by kernel_rfl))⟩,
  f47 := Try.func98.trans (congrArg some (by kernel_rfl)),
  f48 := Try.func99.trans (congrArg some (by kernel_rfl)),
  f49 := ⟨Try.f103.name, by decide, Try.func103.trans (congrArg some (by kernel_rfl))⟩,
  f50 := ⟨Try.f104.name, by decide, Try.func104.trans (congrArg some (by kernel_rfl))⟩,
  f57 := ⟨Try.f111.name, by decide, Try.func111.trans (congrArg some (by kernel_rfl))⟩,
  t0 := Try.underlying0,
  a0 := Try.isAgg0,
  z0 := Try.sizeOf0,
  v0 := Try.zeroValue0,
  t3 := Try.underlying3,
  a3 := Try.isAgg3,
  z3 := Try.sizeOf3,
  v3 := Try.zeroValue3,
  t4 := Try.underlying4,
  a4 := Try.isAgg4,
  z4 := Try.sizeOf4,
  v4 := Try.zeroValue4,
  t5 := Try.underlying5,
  a5 := Try.isAgg5,
  z5 := Try.sizeOf5,
  v5 := Try.zeroValue5,
  t9 := Try.underlying9,
  a9 := Try.isAgg9,
  z9 := Try.sizeOf9,
  v9 := Try.zeroValue9,
  t22 := Try.underlying49,
  a22 := Try.isAgg49,
  z22 := Try.sizeOf49,
  v22 := Try.zeroValue49,
  t25 := Try.underlying65,
  a25 := Try.isAgg65,
  z25 := Try.sizeOf65,
  v25 := Try.zeroValue65,
  t39 := Try.underlying79,
  a39 := Try.isAgg79,
  z39 := Try.sizeOf79,
  v39 := Try.zeroValue79,
  t45 := Try.underlying87,
  a45 := Try.isAgg87,
  z45 := Try.sizeOf87,
  v45 := Try.zeroValue87,
  t46 := Try.underlying88,
  a46 := Try.isAgg88,
  z46 := Try.sizeOf88,
  v46 := Try.zeroValue88,
  t50 := Try.underlying93,
  a50 := Try.isAgg93,
  z50 := Try.sizeOf93,
  v50 := Try.zeroValue93,
  t53 := Try.underlying96,
  a53 := Try.isAgg96,
  z53 := Try.sizeOf96,
  v53 := Try.zeroValue96,
  t55 := Try.underlying98,
  a55 := Try.isAgg98,
  z55 := Try.sizeOf98,
  v55 := Try.zeroValue98,
  t66 := Try.underlying114,
  a66 := Try.isAgg114,
  z66 := Try.sizeOf114,
  v66 := Try.zeroValue114,
  t70 := Try.underlying118,
  a70 := Try.isAgg118,
  z70 := Try.sizeOf118,
  v70 := Try.zeroValue118,
  t76 := Try.underlying128,
  a76 := Try.isAgg128,
  z76 := Try.sizeOf128,
  v76 := Try.zeroValue128,
  t77 := Try.underlying129,
  a77 := Try.isAgg129,
  z77 := Try.sizeOf129,
  v77 := Try.zeroValue129 }
def layV_ren : Go.Shelf.Ren := ⟨fun | 6 => 42 | 15 => 53 | 14 => 64 | 28 => 74 | 29 => 75 | 20 => 89 | 21 => 90 | 22 => 91 | 23 => 92 | 24 => 93 | 25 => 94 | 26 => 95 | 27 => 96 | 46 => 107 | 47 => 98 | 48 => 99 | 49 => 108 | 50 => 109 | 57 => 112 | n => n, fun | 22 => 46 | 24 => 48 | 25 => 72 | 3 => 3 | 39 => 79 | 0 => 0 | 53 => 96 | 55 => 98 | 4 => 4 | 46 => 88 | 45 => 87 | 50 => 93 | 5 => 5 | 9 => 9 | 66 => 114 | 70 => 118 | 76 => 128 | 77 => 129 | n => n, fun | n => n⟩
theorem layV : Go.Proofs.SlLaysF.n6 Try.prog layV_ren := {
  mixed := by kernel_rfl,
  f6 := ⟨Try.f42.name, by decide, Try.func42.trans (congrArg some (by kernel_rfl))⟩,
  f14 := ⟨Try.f64.name, by decide, Try.func64.trans (congrArg some (by kernel_rfl))⟩,
  f15 := Try.func53.trans (congrArg some (by kernel_rfl)),
  f20 := ⟨Try.f89.name, by decide, Try.func89.trans (congrArg some (by kernel_rfl))⟩,
  f21 := ⟨Try.f90.name, by decide, Try.func90.trans (congrArg some (by kernel_rfl))⟩,
  f22 := ⟨Try.f91.name, by decide, Try.func91.trans (congrArg some (by kernel_rfl))⟩,
  f23 := ⟨Try.f92.name, by decide, Try.func92.trans (congrArg some (by kernel_rfl))⟩,
  f24 := ⟨Try.f93.name, by decide, Try.func93.trans (congrArg some (by kernel_rfl))⟩,
  f25 := ⟨Try.f94.name, by decide, Try.func94.trans (congrArg some (by kernel_rfl))⟩,
  f26 := ⟨Try.f95.name, by decide, Try.func95.trans (congrArg some (by kernel_rfl))⟩,
  f27 := ⟨Try.f96.name, by decide, Try.func96.trans (congrArg some (by kernel_rfl))⟩,
  f28 := Try.func74.trans (congrArg some (by kernel_rfl)),
  f29 := Try.func75.trans (congrArg some (by kernel_rfl)),
  f46 := ⟨Try.f107.name, by decide, Try.func107.trans (congrArg some (by kernel_rfl))⟩,
  f47 := Try.func98.trans (congrArg some (by kernel_rfl)),
  f48 := Try.func99.trans (congrArg some (by kernel_rfl)),
  f49 := ⟨Try.f108.name, by decide, Try.func108.trans (congrArg some (by kernel_rfl))⟩,
  f50 := ⟨Try.f109.name, by decide, Try.func109.trans (congrArg some (by kernel_rfl))⟩,
  f57 := ⟨Try.f112.name, by decide, Try.func112.trans (congrArg some (by kernel_rfl))⟩,
  t0 := Try.underlying0,
  a0 := Try.isAgg0,
  z0 := Try.sizeOf0,
  v0 := Try.zeroValue0,
  t3 := Try.underlying3,
  a3 := Try.isAgg3,
  z3 := Try.sizeOf3,
  v3 := Try.zeroValue3,
  t4 := Try.underlying4,
  a4 := Try.isAgg4,
  z4 := Try.sizeOf4,
  v4 := Try.zeroValue4,
  t5 := Try.underlying5,
  a5 := Try.isAgg5,
  z5 := Try.sizeOf5,
  v5 := Try.zeroValue5,
  t9 := Try.underlying9,
  a9 := Try.isAgg9,
  z9 := Try.sizeOf9,
  v9 := Try.zeroValue9,
  t22 := Try.underlying46,
  a22 := Try.isAgg46,
  z22 := Try.sizeOf46,
  v22 := Try.zeroValue46,
  a24 := Try.isAgg48,
  z24 := Try.sizeOf48,
  t25 := Try.underlying72,
  a25 := Try.isAgg72,
  z25 := Try.sizeOf72,
  v25 := Try.zeroValue72,
  t39 := Try.underlying79,
  a39 := Try.isAgg79,
  z39 := Try.sizeOf79,
  v39 := Try.zeroValue79,
  t45 := Try.underlying87,
  a45 := Try.isAgg87,
  z45 := Try.sizeOf87,
  v45 := Try.zeroValue87,
  t46 := Try.underlying88,
  a46 := Try.isAgg88,
  z46 := Try.sizeOf88,
  v46 := Try.zeroValue88,
  t50 := Try.underlying93,
  a50 := Try.isAgg93,
  z50 := Try.sizeOf93,
  v50 := Try.zeroValue93,
  t53 := Try.underlying96,
  a53 := Try.isAgg96,
  z53 := Try.sizeOf96,
  v53 := Try.zeroValue96,
  t55 := Try.underlying98,
  a55 := Try.isAgg98,
  z55 := Try.sizeOf98,
  v55 := Try.zeroValue98,
  t66 := Try.underlying114,
  a66 := Try.isAgg114,
  z66 := Try.sizeOf114,
  v66 := Try.zeroValue114,
  t70 := Try.underlying118,
  a70 := Try.isAgg118,
  z70 := Try.sizeOf118,
  v70 := Try.zeroValue118,
  t76 := Try.underlying128,
  a76 := Try.isAgg128,
  z76 := Try.sizeOf128,
  v76 := Try.zeroValue128,
  t77 := Try.underlying129,
  a77 := Try.isAgg129,
  z77 := Try.sizeOf129,
  v77 := Try.zeroValue129 }
end Go.Proofs.Ytdackakjcnnofaa

/- slices.SortFunc over elements. -/
namespace Go.Proofs.Ytdackakjcnnofaa
open Go.RowKit Go.Shelf Go.Lib Go.Sort
attribute [local go_sem] Oper.semAt_some

theorem cmpL_eq : ∀ xs ys : List Int, cmpL xs ys = if xs < ys then -1 else if ys < xs then 1 else 0
  | [], [] => by simp [cmpL]
  | [], _ :: _ => by simp [cmpL]
  | _ :: _, [] => by simp [cmpL]
  | x :: xs, y :: ys => by
    rw [cmpL, cmpL_eq xs ys]
    simp only [List.cons_lt_cons_iff]
    by_cases h1 : x < y
    · simp [h1]
    · by_cases h2 : y < x
      · have h3 : ¬ x = y := by omega
        simp [h1, h2, h3]
      · have h3 : x = y := by omega
        subst h3
        simp
/-- An element's cells, as the shelf wants them. -/
abbrev El5 : Type := { l : List Int // l.length = 5 }
instance el5Inh : Inhabited El5 := ⟨⟨[0, 0, 0, 0, 0], rfl⟩⟩
def enc5 (x : El5) : List Value := cs5 x.1
def cf5 (x y : El5) : Int := cmpL x.1 y.1
theorem lt5 (x y : El5) : ltOf cf5 x y = decide (x.1 < y.1) := by
  unfold ltOf cf5
  rw [cmpL_eq]
  refine decide_eq_decide.2 ?_
  by_cases h : x.1 < y.1
  · simp [h]
  · rw [if_neg h]
    by_cases h2 : y.1 < x.1 <;> simp [h, h2]
theorem swo5 : SWO (ltOf cf5) where
  irrefl x := by rw [lt5]; simp
  trans x y z h1 h2 := by
    rw [lt5] at h1 h2 ⊢
    simp only [decide_eq_true_eq] at h1 h2 ⊢
    exact List.lt_trans h1 h2
  ntrans x y z h1 h2 := by
    rw [lt5] at h1 h2 ⊢
    simp only [decide_eq_false_iff_not] at h1 h2 ⊢
    exact fun h3 => h1 (by
      rcases List.le_total x.1 y.1 with h | h
      · rcases List.le_iff_lt_or_eq.1 h with h | h
        · exact h
        · rw [← h] at h2; exact absurd h3 h2
      · rcases List.le_iff_lt_or_eq.1 h with h | h
        · exact absurd (List.lt_trans h h3) h2
        · rw [h] at h2; exact absurd h3 h2)
theorem tot5 (x y : El5) (h1 : ltOf cf5 x y = false) (h2 : ltOf cf5 y x = false) : x = y := by
  rw [lt5] at h1 h2
  simp only [decide_eq_false_iff_not] at h1 h2
  refine Subtype.ext ?_
  rcases List.le_total x.1 y.1 with h | h
  · rcases List.le_iff_lt_or_eq.1 h with h | h
    · exact absurd h h1
    · exact h
  · rcases List.le_iff_lt_or_eq.1 h with h | h
    · exact absurd h h2
    · exact h.symm
set_option maxRecDepth 20000 in
theorem cmpP_any (x y : El5) (w : World) : Calls Try.prog 36 #[.agg (cs5 x.1).toArray, .agg (cs5 y.1).toArray] w fun e w' => e = .returned (.int .i64 (cf5 x y)) ∧ ∃ q os', w' = grow (w.drewN q) os' := by
  obtain ⟨x, hx⟩ := x
  obtain ⟨y, hy⟩ := y
  have h1 : Held ((w.alloc (.cells (cs5 x).toArray 54)).alloc (.cells (cs5 y).toArray 54)) w.heap.size 54 (cs5 x) := (Held.new w _ _).alloc _
  have h2 : Held ((w.alloc (.cells (cs5 x).toArray 54)).alloc (.cells (cs5 y).toArray 54)) (w.heap.size + 1) 54 (cs5 y) := Held.made (by simp)
  have i1 : Ints ((w.alloc (.cells (cs5 x).toArray 54)).alloc (.cells (cs5 y).toArray 54)) (.slice (some ⟨w.heap.size, 0, none⟩) 5 5) x := ⟨some ⟨w.heap.size, 0, none⟩, 5, by rw [hx], by omega, by omega, fun _ => ⟨w.heap.size, 0, rfl, by simp; omega, fun i hi => by
    rw [Nat.zero_add]; exact h1.at (cs5_get x i hi)⟩⟩
  have i2 : Ints ((w.alloc (.cells (cs5 x).toArray 54)).alloc (.cells (cs5 y).toArray 54)) (.slice (some ⟨w.heap.size + 1, 0, none⟩) 5 5) y := ⟨some ⟨w.heap.size + 1, 0, none⟩, 5, by rw [hy], by omega, by omega, fun _ => ⟨w.heap.size + 1, 0, rfl, by simp, fun i hi => by
    rw [Nat.zero_add]; exact h2.at (cs5_get y i hi)⟩⟩
  have C := Lib.hid (fun q => Compare_any _ _ x y (World.drewN ((w.alloc (.cells (cs5 x).toArray 54)).alloc (.cells (cs5 y).toArray 54)) q) (i1.below ⟨rfl, rfl, rfl, Nat.le_refl _, fun _ _ => rfl⟩) (i2.below ⟨rfl, rfl, rfl, Nat.le_refl _, fun _ _ => rfl⟩))
  show Calls Try.prog 36 #[.agg (cs5 x).toArray, .agg (cs5 y).toArray] w (fun e w' => e = .returned (.int .i64 (cmpL x y)) ∧ ∃ q os', w' = grow (w.drewN q) os')
  clear h1 h2 i1 i2 hx hy
  go_enter Try.func36, Try.ntmps36
  go_wp2_with fail
  go_quiet ((go_at_call 11; exact Calls.quiet_of_same ((C.out _).mono fun _ _ h => ⟨h.1, h.2.symm⟩)))
  go_wp2
  go_ret
  exact ⟨rfl, nq, #[.cells (cs5 x).toArray 54, .cells (cs5 y).toArray 54], by rw [alloc_eq_grow, alloc_eq_grow, grow_grow]; rfl⟩
theorem arrE : ∀ w, (isAgg 54).run Try.prog w = .ok true w := fun w => by kernel_rfl
theorem sizE : ∀ w, (Go.sizeOf 54).run Try.prog w = .ok 5 w := fun w => by kernel_rfl
/-- The elements lie in a row of the call's own: block g, whole. -/
theorem holds5 {B g cap : Nat} {w : World} {L : List (List Int)} (h : OwnE B w (.slice (some ⟨g, 0, none⟩) L.length cap) L) (hL : ∀ l ∈ L, l.length = 5) : HoldsK enc5 5 w g 0 (L.attach.map fun l => (⟨l.1, hL l.1 l.2⟩ : El5)).toArray := by
  have hf := flat_length L hL
  have h' : w.ownsRow B 54 5 (.slice (some ⟨g, 0, none⟩) L.length cap) L.length (L.flatMap cs5) := h
  intro t ht
  rw [size_flatK] at ht
  have hn : t < L.length * 5 := by simpa using ht
  refine ⟨?_, ?_⟩
  · rw [Nat.zero_add, World.ownsRow.cellAt h' t hn]
    show _ = some (id (flatK enc5 5 _)[t]!)
    rw [get_flatK _ _ _ _ ht]
    have hi : t / 5 < L.length := by omega
    have e := flat_get L (t / 5) (t % 5) hi hL (by omega)
    rw [show t / 5 * 5 + t % 5 = t by omega] at e
    rw [e]
    have hs : t / 5 < (L.attach.map fun l => (⟨l.1, hL l.1 l.2⟩ : El5)).toArray.size := by simpa using hi
    rw [getElem!_pos (L.attach.map fun l => (⟨l.1, hL l.1 l.2⟩ : El5)).toArray (t / 5) hs]
    have hl5 : t % 5 < (cs5 L[t / 5]).length := by rw [cs5_length, hL _ (List.getElem_mem hi)]; omega
    simp [enc5, List.getElem!_eq_getElem?_getD, List.getElem?_eq_getElem hl5]
  · rw [Nat.zero_add]
    exact World.ownsRow.frozenAt h' t
/-- What SortFunc leaves of the elements: the same ones, in order. -/
def SortOutE (g cap : Nat) (L : List (List Int)) (w : World) (e : Ending) (w' : World) : Prop :=
  e = .returned (.tuple #[]) ∧ ∃ R : List (List Int), R.Perm L ∧ R.Pairwise (fun a b => ¬ b < a) ∧ ElsAt w' (.slice (some ⟨g, 0, none⟩) L.length cap) R ∧ Sm (fun k => k ≠ g) w w'
set_option maxRecDepth 20000 in
theorem sortP_any {B g cap : Nat} {w : World} {L : List (List Int)} (h : OwnE B w (.slice (some ⟨g, 0, none⟩) L.length cap) L) (hL : ∀ l ∈ L, l.length = 5) (hp : 0 < L.length) (hlen : L.length ≤ 1000) :
    Calls Try.prog 35 #[.slice (some ⟨g, 0, none⟩) L.length cap, .func (.func 36) #[] #[]] w (SortOutE g cap L w) := by
  have hH := holds5 h hL
  obtain ⟨D, hD⟩ : ∃ D : List El5, L.attach.map (fun l => (⟨l.1, hL l.1 l.2⟩ : El5)) = D := ⟨_, rfl⟩
  rw [hD] at hH
  have hDL : D.map (·.1) = L := by rw [← hD, List.map_map]; simp [Function.comp_def]
  have hDs : D.length = L.length := by rw [← hDL]; simp
  have hblk : g < w.heap.size := by
    have := (World.ownsRow.lt h g rfl).2; exact this
  have hcapl : L.length ≤ cap := by
    rcases h.2 with ⟨h', _⟩ | ⟨g', cap', cur, h', _, _, hn, _⟩
    · simp at h'
    · obtain ⟨_, _, rfl⟩ := Value.slice.inj h'; exact hn
  have eg : ∀ args w, (callFunc 36 args).run Try.prog w = .ok (.enter 36 args) w := enters_of Try.func36 (by kernel_rfl) rfl
  have hS := AnyQ.slices_SortFunc_total layP 5 arrE sizE enc5 (fun x => by rw [enc5, cs5_length, x.2]) (fun x => cs5_one x.1) cf5 swo5 36 #[] g 0 cap D.toArray w eg (fun m os dk hdk x y => cmpP_any x y _) hH hblk (by simp; omega) tot5
  change Calls Try.prog 35 _ _ _ at hS
  rw [List.size_toArray, hDs] at hS
  refine hS.mono fun e w' ⟨he, n, os, hw⟩ => ?_
  subst hw
  obtain ⟨M, hM⟩ : ∃ M, D.toArray.toList.mergeSort (fun x y => !(ltOf cf5) y x) = M := ⟨_, rfl⟩
  have hMp : M.Perm D := by rw [← hM]; exact List.mergeSort_perm _ _
  have hMs : M.Pairwise (fun a b => ¬ b.1 < a.1) := by
    have := List.pairwise_mergeSort (le := fun x y : El5 => !(ltOf cf5) y x) (fun a b c h1 h2 => by
      simp only [Bool.not_eq_true', lt5, decide_eq_false_iff_not] at h1 h2 ⊢
      have := swo5.ntrans c b a (by rw [lt5]; simpa using h2) (by rw [lt5]; simpa using h1)
      rw [lt5] at this
      simpa using this) (fun a b => by
      simp only [lt5, Bool.or_eq_true, Bool.not_eq_true', decide_eq_false_iff_not]
      by_cases h : b.1 < a.1
      · exact .inr fun h2 => List.lt_irrefl _ (List.lt_trans h h2)
      · exact .inl h) D.toArray.toList
    rw [hM] at this
    exact this.imp fun {a b} h => by simpa [lt5] using h
  have hMl : M.length = L.length := by rw [hMp.length_eq, hDs]
  rw [hM]
  refine ⟨he, M.map (·.1), by rw [← hDL]; exact hMp.map _, by rw [List.pairwise_map]; exact hMs, ?_, ?_⟩
  · refine ⟨g, cap, by rw [List.length_map, hMl], by rw [List.length_map, hMl]; exact hcapl, ?_, fun i hi j hj => ?_⟩
    · unfold sortWorldK
      rw [size_grow, size_putRowK, heap_ahead]; omega
    · have hi' : i < M.length := by simpa using hi
      have hc := (holdsK_putRowK enc5 5 (Sort.ahead w n) g 0 D.toArray M.toArray hH (by simp [hMl, hDs])).cell (i := i) (c := j) (by simpa using hi') hj
      unfold sortWorldK
      rw [cell?_grow _ _ _ (by rw [size_putRowK, heap_ahead]; exact hblk)]
      rw [Nat.zero_add] at hc
      rw [hc.1, getElem!_pos M.toArray i (by simpa using hi')]
      have hl5 : j < (cs5 (M[i]).1).length := by rw [cs5_length, (M[i]).2]; exact hj
      simp [enc5, List.getElem!_eq_getElem?_getD, List.getElem?_eq_getElem hl5]
  · refine ⟨rfl, rfl, rfl, ?_, fun k hk hlt => ?_⟩
    · unfold sortWorldK
      rw [size_grow, size_putRowK, heap_ahead]; omega
    · unfold sortWorldK
      rw [heap_grow_old _ os (by rw [size_putRowK, heap_ahead]; exact hlt)]
      unfold putRowK putRow mapBlock
      simp [Array.getElem?_modify, Ne.symm hk]
end Go.Proofs.Ytdackakjcnnofaa

/- The map of elements that are known; what isPermutation says. -/
namespace Go.Proofs.Ytdackakjcnnofaa
open Go.RowKit

/-- Block b is the map of just these elements. -/
def MapB (w : World) (b : Nat) (L : List (List Int)) : Prop :=
  ∃ es clock, w.heap[b]? = some (.map es clock) ∧ es.toList.map (fun e => (e.key, e.val)) = L.map fun p => (Value.agg (cs5 p).toArray, Value.bool true)
theorem MapB.lt {w : World} {b : Nat} {L : List (List Int)} (h : MapB w b L) : b < w.heap.size := by
  obtain ⟨es, clock, hb, _⟩ := h
  exact (Array.getElem?_eq_some_iff.1 hb).1
theorem MapB.sm {S : Nat → Prop} {w w' : World} {b : Nat} {L : List (List Int)} (h : MapB w b L) (hs : Sm S w w') (hS : S b) : MapB w' b L := by
  obtain ⟨es, clock, hb, he⟩ := h
  exact ⟨es, clock, (hs.block b hS (Array.getElem?_eq_some_iff.1 hb).1).trans hb, he⟩
theorem MapB.find {w : World} {b : Nat} {L : List (List Int)} (h : MapB w b L) (hL : ∀ l ∈ L, Elt l) {x : List Int} (hx : Elt x) :
    ∃ es clock, w.heap[b]? = some (.map es clock) ∧ (∀ em, (Instr.checkKey em 10000 54 (.agg (cs5 x).toArray)).run Try.prog w = .ok () w) ∧
      ((x ∉ L ∧ (Instr.findKey 54 (.agg (cs5 x).toArray) es.toList).run Try.prog w = .ok none w) ∨ (x ∈ L ∧ ∃ i, (Instr.findKey 54 (.agg (cs5 x).toArray) es.toList).run Try.prog w = .ok (some (i, .bool true)) w)) ∧
      es.toList.map (fun e => (e.key, e.val)) = L.map fun p => (Value.agg (cs5 p).toArray, Value.bool true) := by
  obtain ⟨es, clock, hb, he⟩ := h
  obtain ⟨kl, hkl⟩ := key_elem hx
  have hent : ∀ (j : Nat) (e : MapEntry), es.toList[j]? = some e → ∃ l, L[j]? = some l ∧ e.key = .agg (cs5 l).toArray ∧ e.val = .bool true := by
    intro j e hj
    have h1 : (es.toList.map (fun e => (e.key, e.val)))[j]? = some (e.key, e.val) := by rw [List.getElem?_map, hj]; rfl
    rw [he, List.getElem?_map] at h1
    cases hz : L[j]? with
    | none => rw [hz] at h1; cases h1
    | some p =>
      rw [hz] at h1
      have h2 := Option.some.inj h1
      have h3 := congrArg Prod.fst h2
      have h4 := congrArg Prod.snd h2
      simp only at h3 h4
      exact ⟨p, rfl, h3.symm, h4.symm⟩
  refine ⟨es, clock, hb, fun em => law_elem.check w em hkl, ?_, he⟩
  rcases law_elem.find w hkl es.toList (fun e hm => by
    obtain ⟨j, hj⟩ := List.mem_iff_getElem?.1 hm
    obtain ⟨l, hl, hk, _⟩ := hent j e hj
    rw [hk]
    exact key_elem (hL l (List.mem_of_getElem? hl))) with ⟨h1, h2⟩ | ⟨j, e0, h1, h2, h3⟩
  · refine .inl ⟨fun hm => ?_, h1⟩
    obtain ⟨j, hj⟩ := List.mem_iff_getElem?.1 hm
    have hlen : es.toList.length = L.length := by have := congrArg List.length he; simpa using this
    have hjl : j < es.toList.length := by rw [hlen]; exact (List.getElem?_eq_some_iff.1 hj).1
    obtain ⟨l, hl, hk, _⟩ := hent j _ (List.getElem?_eq_getElem hjl)
    rw [hj] at hl
    cases hl
    exact h2 _ (List.getElem_mem hjl) hk
  · obtain ⟨l, hl, hk, hv⟩ := hent j e0 h2
    rw [h3] at hk
    injection hk with hk
    obtain rfl := cs5_inj hk
    exact .inr ⟨List.mem_of_getElem? hl, j, by rw [h1, hv]⟩
theorem MapB.look {w : World} {b : Nat} {L : List (List Int)} (h : MapB w b L) (hL : ∀ l ∈ L, Elt l) {x : List Int} (hx : Elt x) :
    (Instr.lookup 62 (.map (some b)) (.agg (cs5 x).toArray) false).run Try.prog w = .ok (.bool (decide (x ∈ L))) w := by
  obtain ⟨es, clock, hb, hc, hf, _⟩ := h.find hL hx
  have hz : (zeroValue 4).run Try.prog w = .ok (.bool false) w := by kernel_rfl
  have ht : Try.prog.underlying 62 = some (.map 54 4) := Try.underlying62
  rcases hf with ⟨hm, hf⟩ | ⟨hm, i, hf⟩
  · simp [Instr.lookup, run_underlying ht, MapKept.run_getObj_map hb, hc, hf, hz, Result.andThen, hm]
  · simp [Instr.lookup, run_underlying ht, MapKept.run_getObj_map hb, hc, hf, Result.andThen, hm]
theorem MapB.add {w : World} {b : Nat} {L : List (List Int)} (h : MapB w b L) (hL : ∀ l ∈ L, Elt l) {x : List Int} (hx : Elt x) (hm : x ∉ L) :
    ∃ w', (Instr.mapUpdate 62 (.map (some b)) (.agg (cs5 x).toArray) (.bool true)).run Try.prog w = .ok () w' ∧ MapB w' b (L ++ [x]) ∧ Sm (fun k => k ≠ b) w w' ∧ w'.heap.size = w.heap.size := by
  obtain ⟨es, clock, hb, hc, hf, he⟩ := h.find hL hx
  have ht : Try.prog.underlying 62 = some (.map 54 4) := Try.underlying62
  rcases hf with ⟨_, hf⟩ | ⟨hm', _⟩
  · refine ⟨_, by simp [Instr.mapUpdate, run_underlying ht, MapKept.run_getObj_map hb, hc, hf, MapKept.run_setObj_map _ hb, Result.andThen]; rfl, ?_, ?_, ?_⟩
    · refine ⟨es.push { key := .agg (cs5 x).toArray, val := .bool true, born := clock }, clock + 1, ?_, ?_⟩
      · have hlt := (Array.getElem?_eq_some_iff.1 hb).1
        simp [hlt]
      · rw [Array.toList_push, List.map_append, he, List.map_append]
        simp
    · exact ⟨rfl, rfl, rfl, by simp, fun k hk _ => by simp [Ne.symm hk]⟩
    · simp
  · exact absurd hm' hm
theorem mapB_new (w : World) : MapB (w.alloc (.map #[] 0)) w.heap.size [] := ⟨#[], 0, heap_alloc_new w _, rfl⟩
theorem mapE_new (w : World) : MapE (w.alloc (.map #[] 0)) w.heap.size [] := ⟨#[], 0, heap_alloc_new w _, rfl⟩

/-! ### isPermutation -/
def maskN (l : List Nat) : Nat := l.foldl (fun m x => m ||| 2 ^ x) 0
def permChk (d : Nat) : Bool := (listsP d d).all fun x => Nat.beq (maskN x) (2 ^ d - 1) == nodB x
theorem perm_checked : (permChk 0 && permChk 1 && permChk 2 && permChk 3 && permChk 4 && permChk 5) = true := by kernel_rfl
theorem maskN_toI (l : List Nat) : maskP (toI l) = maskN l := by
  unfold maskP maskN toI
  rw [List.foldl_map]
  simp
theorem nodB_iff : ∀ {x : List Nat}, nodB x = true → x.Nodup
  | [], _ => List.nodup_nil
  | a :: x, h => by
    rw [nodB, Bool.and_eq_true, Bool.not_eq_true', ← Bool.not_eq_true, List.elem_iff] at h
    exact List.nodup_cons.2 ⟨h.1, nodB_iff h.2⟩
theorem permB_nat {d : Nat} (hd : d ≤ 5) {x : List Nat} (hl : x.length = d) (hx : ∀ i ∈ x, i < d) : maskN x = 2 ^ d - 1 ↔ x.Nodup := by
  have hs : permChk d = true := by
    have := perm_checked
    simp only [Bool.and_eq_true] at this
    obtain ⟨⟨⟨⟨⟨h0, h1⟩, h2⟩, h3⟩, h4⟩, h5⟩ := this
    have hcase : d = 0 ∨ d = 1 ∨ d = 2 ∨ d = 3 ∨ d = 4 ∨ d = 5 := by omega
    rcases hcase with rfl | rfl | rfl | rfl | rfl | rfl
    · exact h0
    · exact h1
    · exact h2
    · exact h3
    · exact h4
    · exact h5
  have hm := @listsP_mem d x hx
  rw [hl] at hm
  have h := List.all_eq_true.1 hs x hm
  simp only [beq_iff_eq] at h
  constructor
  · intro e
    exact nodB_iff (by rw [← h, e]; exact Nat.beq_refl _)
  · intro hn
    have := nodB_of hn
    rw [this] at h
    exact Nat.eq_of_beq_eq_true h
theorem permB_row {d : Nat} (h1 : 1 ≤ d) (hd : d ≤ 5) (p : List Int) : permB d p = rowQ d p := by
  rw [Bool.eq_iff_iff, rowQ_iff]
  unfold permB
  simp only [Bool.and_eq_true, decide_eq_true_eq, List.all_eq_true]
  have key : (∀ x ∈ p, 0 ≤ x ∧ x < (d : Int)) → p.length = d → (maskP p = 2 ^ d - 1 ↔ p.Nodup) := by
    intro ha hl
    have e : toI (natP p) = p := natP_toI fun x hx => (ha x hx).1
    have h0 := permB_nat hd (x := natP p) (by simp [natP, hl]) (fun i hi => by
      obtain ⟨y, hy, rfl⟩ := List.mem_map.1 hi
      have := ha y hy
      omega)
    rw [← maskN_toI, e] at h0
    rw [h0]
    conv => rhs; rw [← e]
    unfold toI
    rw [List.Nodup, List.Nodup, List.pairwise_map]
    exact ⟨fun h => h.imp fun {a b} h e => h (by omega), fun h => h.imp fun {a b} h e => h (by rw [e])⟩
  constructor
  · rintro ⟨ha, hl, hm⟩
    exact ⟨h1, hd, ha, (key ha hl).1 hm, hl⟩
  · rintro ⟨_, _, ha, hn, hl⟩
    exact ⟨ha, hl, (key ha hl).2 hn⟩
end Go.Proofs.Ytdackakjcnnofaa

/- Maps made and updated: laws for the walk. -/
namespace Go.Proofs.Ytdackakjcnnofaa
open Go.RowKit

theorem wpl_insB {ops : Array Oper} {rest : List Oper} {op : Oper} {a : Act} {w : World} {Q : Exit → Act → World → Prop} (hg : op.guard = none) (m k x : Operand) (ho : op.op = .insert 62 m k x ∨ op.op = .mapUpdate 62 m k x)
    (b : Nat) (L : List (List Int)) (l : List Int) (h : MapB w b L) (hL : ∀ l ∈ L, Elt l) (hl : Elt l) (hn : l ∉ L) (hm : a.eval m = .map (some b)) (hk : a.eval k = .agg (cs5 l).toArray) (hx : a.eval x = .bool true)
    (hK : ∀ W, MapB W b (L ++ [l]) → Sm (fun j => j ≠ b) w W → W.heap.size = w.heap.size → wpList Try.prog ops Q rest (a.put op.dst undef) W) : wpList Try.prog ops Q (op :: rest) a w := by
  refine wpList_plain hg fun K' hK' => ?_
  obtain ⟨W, hrun, h1, h2, h3⟩ := h.add hL hl hn
  have hK2 := hK' _ _ (hK W h1 h2 h3)
  unfold Oper.wp execOp
  rcases ho with ho | ho
  · simp only [ho, hm, hk, hx, Sem.run_bind, Sem.run_pure, Result.andThen_ok, hrun]
    exact hK2
  · simp only [ho, hm, hk, hx, Sem.run_bind, Sem.run_pure, Result.andThen_ok, hrun]
    exact hK2
theorem wpl_updE {ops : Array Oper} {rest : List Oper} {op : Oper} {a : Act} {w : World} {Q : Exit → Act → World → Prop} (hg : op.guard = none) (m k x : Operand) (ho : op.op = .mapUpdate 50 m k x)
    (b : Nat) (L : List (List Int)) (l : List Int) (h : MapE w b L) (hL : ∀ l ∈ L, Elt l) (hnd : L.Nodup) (hl : Elt l) (hn : l ∉ L) (hm : a.eval m = .map (some b)) (hk : a.eval k = .agg (cs5 l).toArray) (hx : a.eval x = .int .i64 (L.length : Nat))
    (hK : ∀ W, MapE W b (L ++ [l]) → Sm (fun j => j ≠ b) w W → W.heap.size = w.heap.size → wpList Try.prog ops Q rest (a.put op.dst undef) W) : wpList Try.prog ops Q (op :: rest) a w := by
  refine wpList_plain hg fun K' hK' => ?_
  obtain ⟨W, hrun, h1, h2, h3⟩ := h.add hL hnd hl hn
  have hK2 := hK' _ _ (hK W h1 h2 h3)
  unfold Oper.wp execOp
  simp only [ho, hm, hk, hx, Sem.run_bind, Sem.run_pure, Result.andThen_ok, hrun]
  exact hK2
end Go.Proofs.Ytdackakjcnnofaa

/- (group).times, inverse, order. -/
namespace Go.Proofs.Ytdackakjcnnofaa
open Go.RowKit
attribute [local go_sem] Oper.semAt_some

theorem elsI_at {d : Nat} {E : List (List Nat)} {a : Nat} (h : a < (elsI d E).length) : (elsI d E)[a] = elI d (E[a]'(by simpa [elsI] using h)) := by simp [elsI]
theorem times_el {d : Nat} {E : List (List Nat)} (h : Grp d E) (hd : d ≤ 5) {a b : Nat} (ha : a < E.length) (hb : b < E.length) :
    ∃ x y z : List Int, (elsI d E)[a]? = some x ∧ (elsI d E)[b]? = some y ∧ Elt x ∧ Elt y ∧ Elt z ∧ afterE x y = z ∧ z ∈ elsI d E ∧ (elsI d E).idxOf z = timesN E a b := by
  have pa := h.perm _ (List.getElem_mem ha)
  have pb := h.perm _ (List.getElem_mem hb)
  have hm := h.mul _ (List.getElem_mem ha) _ (List.getElem_mem hb)
  have pm := h.perm _ hm
  refine ⟨elI d E[a], elI d E[b], elI d (mulP E[a] E[b]), by simp [elsI, ha], by simp [elsI, hb], elI_elt hd pa, elI_elt hd pb, elI_elt hd pm, afterE_mul hd pa pb, (mem_elsI h.perm pm).2 hm, ?_⟩
  rw [idxOf_map h.perm pm]
  unfold timesN numP elP
  simp [List.getD_eq_getElem?_getD, List.getElem?_eq_getElem ha, List.getElem?_eq_getElem hb]

set_option maxRecDepth 100000 in
set_option maxHeartbeats 2000000 in
theorem gtimes_any {d : Nat} {E : List (List Nat)} (bg : Nat) (vE : Value) (bM a b : Nat) (w : World) (h : Grp d E) (hd : d ≤ 5) (hg : GT d E w bg vE bM) (ha : a < E.length) (hb : b < E.length) :
    Calls Try.prog 56 #[.pointer (some ⟨bg, 0, none⟩), .int .i64 (a : Nat), .int .i64 (b : Nat)] w fun e w' => e = .returned (.int .i64 (timesN E a b : Nat)) ∧ Below w.heap.size w w' := by
  obtain ⟨x, y, z, hx, hy, ex, ey, ez, hxy, hz, hidx⟩ := times_el h hd ha hb
  have HG := Lib.hid hg
  have HLK := Lib.hid (fun (p : BelW w) => (hg.map.below p.h).look1 (elsI_elt h hd) (elsI_nodup h) ez hz)
  rw [hidx] at HLK
  obtain ⟨g, cap, rfl, hcap, hgs, hcell⟩ := hg.els
  rw [elsI_length] at hcap
  have HN := Lib.hid (elsI_length d E)
  have AF := Lib.hid (fun w' => after_any x y w' ex ey)
  rw [hxy] at AF
  obtain ⟨x0, x1, x2, x3, x4, rfl⟩ := five ex.len
  obtain ⟨y0, y1, y2, y3, y4, rfl⟩ := five ey.len
  have AF := Lib.hid (show ∀ w', Calls Try.prog 34 #[.agg #[.int .i64 x0, .int .i64 x1, .int .i64 x2, .int .i64 x3, .int .i64 x4], .agg #[.int .i64 y0, .int .i64 y1, .int .i64 y2, .int .i64 y3, .int .i64 y4]] w' fun r w2 => r = .returned (.agg (cs5 z).toArray) ∧ Below w'.heap.size w' w2 from AF.out)
  have hxc : ∀ j, j < 5 → w.cell? ⟨g, a * 5 + j, none⟩ = (cs5 [x0, x1, x2, x3, x4])[j]? := fun j hj => by
    rw [hcell a (by rw [elsI_length]; exact ha) j hj]; rw [List.getElem?_eq_some_iff] at hx; rw [hx.2]
  have hyc : ∀ j, j < 5 → w.cell? ⟨g, b * 5 + j, none⟩ = (cs5 [y0, y1, y2, y3, y4])[j]? := fun j hj => by
    rw [hcell b (by rw [elsI_length]; exact hb) j hj]; rw [List.getElem?_eq_some_iff] at hy; rw [hy.2]
  rw [HN.out] at HG
  have cx0 : ∀ p : BelW w, p.v.cell? ⟨g, a * 5, none⟩ = some (.int .i64 x0) := fun p => BelW.cell hgs (hxc 0 (by omega)) p
  have cx1 : ∀ p : BelW w, p.v.cell? ⟨g, a * 5 + 1, none⟩ = some (.int .i64 x1) := fun p => BelW.cell hgs (hxc 1 (by omega)) p
  have cx2 : ∀ p : BelW w, p.v.cell? ⟨g, a * 5 + 2, none⟩ = some (.int .i64 x2) := fun p => BelW.cell hgs (hxc 2 (by omega)) p
  have cx3 : ∀ p : BelW w, p.v.cell? ⟨g, a * 5 + 3, none⟩ = some (.int .i64 x3) := fun p => BelW.cell hgs (hxc 3 (by omega)) p
  have cx4 : ∀ p : BelW w, p.v.cell? ⟨g, a * 5 + 4, none⟩ = some (.int .i64 x4) := fun p => BelW.cell hgs (hxc 4 (by omega)) p
  have cy0 : ∀ p : BelW w, p.v.cell? ⟨g, b * 5, none⟩ = some (.int .i64 y0) := fun p => BelW.cell hgs (hyc 0 (by omega)) p
  have cy1 : ∀ p : BelW w, p.v.cell? ⟨g, b * 5 + 1, none⟩ = some (.int .i64 y1) := fun p => BelW.cell hgs (hyc 1 (by omega)) p
  have cy2 : ∀ p : BelW w, p.v.cell? ⟨g, b * 5 + 2, none⟩ = some (.int .i64 y2) := fun p => BelW.cell hgs (hyc 2 (by omega)) p
  have cy3 : ∀ p : BelW w, p.v.cell? ⟨g, b * 5 + 3, none⟩ = some (.int .i64 y3) := fun p => BelW.cell hgs (hyc 3 (by omega)) p
  have cy4 : ∀ p : BelW w, p.v.cell? ⟨g, b * 5 + 4, none⟩ = some (.int .i64 y4) := fun p => BelW.cell hgs (hyc 4 (by omega)) p
  have ce : ∀ p : BelW w, p.v.cell? ⟨bg, 1, none⟩ = some (.slice (some ⟨g, 0, none⟩) E.length cap) := fun p => BelW.cell HG.out.lt HG.out.e p
  have cm : ∀ p : BelW w, p.v.cell? ⟨bg, 2, none⟩ = some (.map (some bM)) := fun p => BelW.cell HG.out.lt HG.out.m p
  obtain ⟨n, hn⟩ : ∃ n, E.length = n := ⟨_, rfl⟩
  obtain ⟨t, ht⟩ : ∃ t, timesN E a b = t := ⟨_, rfl⟩
  rw [ht] at HLK ⊢
  rw [hn] at ce ha hb hcap
  have hai : (a : Int) < (n : Int) := by omega
  have hbi : (b : Int) < (n : Int) := by omega
  have hap : (0 : Int) ≤ (a : Int) := by omega
  have hbp : (0 : Int) ≤ (b : Int) := by omega
  have HM := Lib.hid mixed
  clear hx hy hxy hz hidx hg h hcell hxc hyc hn ht
  go_enter Try.func56, Try.ntmps56
  go_wp2_with fail
  refine wp_region_bel HM.out (by kernel_rfl) ?_
  have hlk := HLK.out
  repeat (first
    | go_big_quiet_step ((go_at_call 34; (with_reducible refine Calls.bel_of (AF.out _))))
    | quiet_step ((go_at_call 34; (with_reducible refine Calls.bel_of (AF.out _)))))
  refine wpQuiet_nil ?_
  intro wq hw'
  have hbq := BelW.of hw'
  clear hw'
  go_wp2
  go_ret
  exact ⟨rfl, hbq⟩
/-- No inverse ahead of m. -/
theorem Grp.inv_first {d : Nat} {E : List (List Nat)} (h : Grp d E) {a m : Nat} (ha : a < E.length) (hm : ∀ j, j < m → timesN E a j ≠ 0) : m ≤ invN E a := by
  have hs := h.inv_spec ha
  rcases Nat.lt_or_ge (invN E a) m with h1 | h1
  · exact absurd hs.2 (hm _ h1)
  · exact h1
def NoInv (E : List (List Nat)) (a m : Nat) : Prop := ∀ j, j < m → timesN E a j ≠ 0

set_option maxRecDepth 100000 in
set_option maxHeartbeats 1000000 in
theorem ginv_any {d : Nat} {E : List (List Nat)} (bg : Nat) (vE : Value) (bM a : Nat) (w : World) (h : Grp d E) (hd : d ≤ 5) (h24 : E.length ≤ 24) (hg : GT d E w bg vE bM) (ha : a < E.length) :
    Calls Try.prog 57 #[.pointer (some ⟨bg, 0, none⟩), .int .i64 (a : Nat)] w fun e w' => e = .returned (.int .i64 (invN E a : Nat)) ∧ Below w.heap.size w w' := by
  have TM := Lib.hid (fun (b : Nat) (w' : World) (hb : Below w.heap.size w w') (hbl : b < E.length) => gtimes_any bg vE bM a b w' h hd (hg.below hb) ha hbl)
  have HU := Lib.hid (fun m (hm : m < E.length) e => h.inv_uniq (a := a) ha hm e)
  have HF := Lib.hid (fun m (hm : NoInv E a m) => h.inv_first (a := a) ha hm)
  have HI := Lib.hid (h.inv_spec ha).1
  have hce := hg.e
  have hgl := hg.lt
  obtain ⟨g, cap, rfl, -, -, -⟩ := hg.els
  rw [elsI_length] at hce
  obtain ⟨n, hn⟩ : ∃ n, E.length = n := ⟨_, rfl⟩
  rw [hn] at h24 hce HI TM HU
  clear hg ha h hn
  go_enter Try.func57, Try.ntmps57
  go_wp2
  go_loopw [11] (fun ix wr => ∃ m : Nat, m ≤ n ∧ ix = .int .i64 m ∧ NoInv E a m ∧ Below w.heap.size w wr) (fun ix _ => n - (intOf ix).toNat)
  case atStart => exact ⟨0, Nat.zero_le _, rfl, fun j hj => absurd hj (Nat.not_lt_zero _), Below.refl _ _⟩
  case round =>
    obtain ⟨m, hm, rfl, hno, hb⟩ := hrel
    have HNO := Lib.hid hno
    have HB := Lib.hid hb
    have hle := hb.size
    clear hno hb
    by_cases hlt : m < n
    · have hmi : (m : Int) < (n : Int) := by omega
      have T := Lib.hid (TM.out m wr HB.out hlt)
      by_cases hz : timesN E a m = 0
      · have HE := Lib.hid (HU.out m hlt hz)
        rw [hz] at T
        clear hz
        go_wp2_with (go_at_call 56; refine T.out.mono ?_; rintro e w2 ⟨rfl, hb2⟩; have HB2 := Lib.hid hb2; clear hb2)
        go_ret
        exact ⟨ret_int (by rw [HE.out]), HB.out.trans (HB2.out.mono hle)⟩
      · have HNX := Lib.hid (show NoInv E a (m + 1) from fun j hj => by
          by_cases e : j = m
          · rw [e]; exact hz
          · exact HNO.out j (by omega))
        obtain ⟨t, ht⟩ : ∃ t, timesN E a m = t := ⟨_, rfl⟩
        rw [ht] at T hz
        have hti : (((t : Nat) : Int) == 0) = false := by simp; omega
        have hti2 : ¬ ((t : Nat) : Int) = 0 := by omega
        clear ht
        go_wp2_with (go_at_call 56; refine T.out.mono ?_; rintro e w2 ⟨rfl, hb2⟩; have HB2 := Lib.hid hb2; clear hb2)
        go_roundw
        case rel => exact ⟨m + 1, hlt, by go_num, HNX.out, HB.out.trans (HB2.out.mono hle)⟩
        case measure => simp [intOf]; omega
    · exfalso
      have := HF.out m HNO.out
      have := HI.out
      omega

set_option maxRecDepth 100000 in
set_option maxHeartbeats 1000000 in
theorem gorder_any {d : Nat} {E : List (List Nat)} (bg : Nat) (vE : Value) (bM a : Nat) (w : World) (h : Grp d E) (hd : d ≤ 5) (h24 : E.length ≤ 24) (hg : GT d E w bg vE bM) (ha : a < E.length) :
    Calls Try.prog 59 #[.pointer (some ⟨bg, 0, none⟩), .int .i64 (a : Nat)] w fun e w' => e = .returned (.int .i64 (ordN E a : Nat)) ∧ Below w.heap.size w w' := by
  have TM := Lib.hid (fun (b : Nat) (w' : World) (hb : Below w.heap.size w w') (hbl : b < E.length) => gtimes_any bg vE bM b a w' h hd (hg.below hb) hbl ha)
  have HG := Lib.hid h
  have hord := (h.ord_spec ha).1
  have HA := Lib.hid ha
  have HN := Lib.hid (show ordN E a ≤ 24 by omega)
  clear hg h ha
  go_enter Try.func59, Try.ntmps59
  go_wp2
  go_loopw [5, 6] (fun s x wr => ∃ m : Nat, s = .int .i64 m ∧ x = .int .i64 (powN E a m : Nat) ∧ OrdTo E a m ∧ Below w.heap.size w wr) (fun s _ _ => 100 - (intOf s).toNat)
  case atStart => exact ⟨1, rfl, by rw [HG.out.pow_one HA.out], OrdTo.start HG.out HA.out, Below.refl _ _⟩
  case round =>
    obtain ⟨m, rfl, rfl, hm, hb⟩ := hrel
    have HM := Lib.hid hm
    have HB := Lib.hid hb
    have hle := hb.size
    have hml : m ≤ 24 := by have := hm.2.1; have := HN.out; omega
    have T := Lib.hid (TM.out (powN E a m) wr HB.out hm.2.2)
    clear hm hb
    by_cases hz : powN E a m = 0
    · have HD := Lib.hid (HM.out.done HG.out HA.out hz)
      rw [hz]
      go_wp2
      go_ret
      exact ⟨ret_int (by rw [HD.out]), HB.out⟩
    · obtain ⟨hs1, hs2⟩ := HM.out.step HG.out HA.out hz
      have HS := Lib.hid hs1
      rw [hs2] at T
      obtain ⟨x, hx⟩ : ∃ x, powN E a m = x := ⟨_, rfl⟩
      obtain ⟨y, hy⟩ : ∃ y, powN E a (m + 1) = y := ⟨_, rfl⟩
      have HY := Lib.hid hy
      rw [hx] at hz T ⊢
      rw [hy] at T
      have hzi : ¬ ((x : Nat) : Int) = 0 := by omega
      have hnei : (((x : Nat) : Int) != 0) = true := by simp; omega
      clear hs1 hs2 hx hy
      go_wp2_with (go_at_call 56; refine T.out.mono ?_; rintro e w2 ⟨rfl, hb2⟩; have HB2 := Lib.hid hb2; clear hb2)
      go_roundw
      case rel => exact ⟨m + 1, by go_num, by rw [HY.out], HS.out, HB.out.trans (HB2.out.mono hle)⟩
      case measure => simp [intOf]; omega
end Go.Proofs.Ytdackakjcnnofaa

/- slices.Repeat of one number. -/
namespace Go.Proofs.Ytdackakjcnnofaa
open Go.RowKit
attribute [local go_sem] Oper.semAt_some

theorem madeCells_replicate (z : Value) (n : Nat) : madeCells #[z] n = (List.replicate n z).toArray := by
  refine Array.ext (by simp [madeCells]) fun i h1 h2 => ?_
  simp [madeCells, Nat.mod_one]
/-- `make([]int, n)`. -/
theorem make_ints (n : Nat) (hn : n ≤ 35184372088832) (w : World) : (Instr.makeSlice 28 (.int .i64 (n : Int)) (.int .i64 (n : Int))).run Try.prog w = .ok (.slice (some ⟨w.heap.size, 0, none⟩) n n) (w.alloc (.cells ((toI (List.replicate n 0)).map (Value.int .i64)).toArray 3)) := by
  rw [run_make_row' (P := Try.prog) 28 3 (.int .i64 0) 8 Try.underlying28 info3 rfl .i64 .i64 n (by omega) (by omega) w, madeCells_replicate]
  simp [toI]
theorem own_zeros {B : Nat} (w : World) (n : Nat) (hB : B ≤ w.heap.size) (hm : n ≤ maxLen) : OwnI 3 B (w.alloc (.cells ((toI (List.replicate n 0)).map (Value.int .i64)).toArray 3)) (.slice (some ⟨w.heap.size, 0, none⟩) n n) (toI (List.replicate n 0)) := by
  have := own_fresh (B := B) w 3 (toI (List.replicate n 0)) hB (by simpa [toI] using hm)
  have e : (toI (List.replicate n 0)).length = n := by simp [toI]
  rw [e] at this
  exact this
/-- The world behind make([]int, n). -/
def mkZ (n : Nat) (w : World) : World := w.alloc (.cells ((toI (List.replicate n 0)).map (Value.int .i64)).toArray 3)
theorem make_Z (n : Nat) (hn : n ≤ 35184372088832) (w : World) : (Instr.makeSlice 28 (.int .i64 (n : Int)) (.int .i64 (n : Int))).run Try.prog w = .ok (.slice (some ⟨w.heap.size, 0, none⟩) n n) (mkZ n w) := make_ints n hn w
theorem mkZ_below (n : Nat) (w : World) : Below w.heap.size w (mkZ n w) := (Below.refl _ _).alloc (Nat.le_refl _) _
theorem mkZ_own (n : Nat) (w : World) (hm : n ≤ maxLen) : OwnI 3 w.heap.size (mkZ n w) (.slice (some ⟨w.heap.size, 0, none⟩) n n) (toI (List.replicate n 0)) := own_zeros w n (Nat.le_refl _) hm
theorem mkZ_heap (n : Nat) (w : World) : (mkZ n w).heap[w.heap.size]? = some (.cells ((toI (List.replicate n 0)).map (Value.int .i64)).toArray 3 (0, 0)) := heap_alloc_new w _
theorem mkZ_size (n : Nat) (w : World) : (mkZ n w).heap.size = w.heap.size + 1 := by simp [mkZ]

theorem and32 : ∀ n : Nat, n < 32 → bits BinOp.and IntKind.u64 (n : Int) 4294967295 = (n : Int) := by decide +kernel
set_option maxRecDepth 20000 in
theorem Mul64_one (n : Nat) (hn : n < 32) (w : World) : Calls Try.prog 106 #[.int .u64 1, .int .u64 (n : Nat)] w fun e w' => e = .returned (.tuple #[.int .u64 0, .int .u64 (n : Nat)]) ∧ w = w' := by
  have h1 := and32 n hn
  have h2 : bits BinOp.and IntKind.u64 1 4294967295 = 1 := by decide +kernel
  have h3 : (n : Int) / 4294967296 = 0 := by omega
  have h4 : bits BinOp.and IntKind.u64 0 4294967295 = 0 := by decide +kernel
  have hi : (n : Int) < 32 := by omega
  go_enter Try.func106, Try.ntmps106
  go_wp2
  go_ret2
  exact ⟨rfl, rfl⟩
set_option maxRecDepth 20000 in
theorem Mul_one (n : Nat) (hn : n < 32) (w : World) : Calls Try.prog 84 #[.int .u64 1, .int .u64 (n : Nat)] w fun e w' => e = .returned (.tuple #[.int .u64 0, .int .u64 (n : Nat)]) ∧ w = w' := by
  have M := Lib.hid (Mul64_one n hn w)
  go_enter Try.func84, Try.ntmps84
  go_wp2_with (go_at_call 106; refine M.out.mono ?_; rintro e w' ⟨rfl, rfl⟩)
  go_ret2
  exact ⟨rfl, rfl⟩

def repTo (x : Int) (n m : Nat) : List Int := List.replicate m x ++ List.replicate (n - m) 0
theorem repTo_len (x : Int) (n m : Nat) (h : m ≤ n) : (repTo x n m).length = n := by simp [repTo]; omega
theorem repTo_all (x : Int) (n : Nat) : repTo x n n = List.replicate n x := by simp [repTo]
theorem repTo_splice (x : Int) (n m k : Nat) (h : m + k ≤ n) : splice ((repTo x n m).map (Value.int .i64)) m ((List.replicate k x).map (Value.int .i64)) = (repTo x n (m + k)).map (Value.int .i64) := by
  unfold splice repTo
  apply List.ext_getElem (by simp; omega)
  intro i h1 h2
  simp only [List.map_append, List.map_replicate, List.getElem_append, List.length_take, List.length_append, List.length_replicate, List.getElem_take, List.getElem_drop, List.getElem_replicate]
  by_cases a1 : i < m
  · simp [a1, show i < m + k by omega]
  · by_cases a2 : i < m + k
    · simp [a1, a2]
      intro h
      omega
    · simp [a1, a2]
      rw [if_neg (by omega), if_neg (by omega)]
def RepI (x : Int) (n m g : Nat) (w0 w : World) : Prop := w.heap[g]? = some (.cells ((repTo x n m).map (Value.int .i64)).toArray 3 (0, 0)) ∧ Below w0.heap.size w0 w
theorem rep_src {x : Int} {n m g k : Nat} {w0 w : World} (h : RepI x n m g w0 w) (hk : k ≤ m) : ∀ j v, ((List.replicate k x).map (Value.int .i64))[j]? = some v → w.cell? ((⟨g, 0, none⟩ : Addr).add j) = some v := by
  intro j v hj
  have hjk : j < k := by have := (List.getElem?_eq_some_iff.1 hj).1; simpa using this
  have e : (⟨g, 0, none⟩ : Addr).add j = ⟨g, j, none⟩ := by unfold Addr.add; split <;> simp_all
  rw [e, cell_of_row w g j _ 3 (0, 0) h.1]
  simp only [List.map_replicate, List.getElem?_replicate] at hj
  rw [if_pos hjk] at hj
  cases hj
  have hjm : j < m := Nat.lt_of_lt_of_le hjk hk
  simp only [repTo, List.getElem?_toArray, List.map_append, List.map_replicate]
  rw [List.getElem?_append_left (by simpa using hjm), List.getElem?_replicate, if_pos hjm]

theorem copy_rep {x : Int} {n m g k : Nat} {w0 w : World} (h : RepI x n m g w0 w) (hg : w0.heap.size ≤ g) (hk : k = min m (n - m)) (hmk : m + k ≤ n) :
    ∃ w3, (Builtin.copy_ #[28, 28] 3 #[.slice (some ⟨g, m, none⟩) (n - m) (n - m), .slice (some ⟨g, 0, none⟩) m n]).run Try.prog w = .ok (.int .i64 (k : Nat)) w3 ∧ RepI x n (m + k) g w0 w3 := by
  have info : (Try.prog.info? 3).map (·.size) = some 1 := by kernel_rfl
  have h1 := h.1
  have hr := run_copy_row (P := Try.prog) w 28 28 3 3 g m (n - m) (n - m) ⟨g, 0, none⟩ m n ((repTo x n m).map (Value.int .i64)).toArray 3 ((List.replicate k x).map (Value.int .i64)) Try.underlying28 info h1
    (by rw [List.length_map, List.length_replicate, hk]) (rep_src h (by omega)) (by simp [repTo]; omega) (by intro u hu; obtain ⟨y, _, rfl⟩ := List.mem_map.1 hu; rfl)
  have e := repTo_splice x n m k hmk
  unfold splice at e
  rw [List.toList_toArray, List.append_assoc, e, List.length_map, List.length_replicate] at hr
  exact ⟨_, hr, setRow_heap w g _ _ 3 _ h1, below_setRow h.2 hg _⟩
set_option maxRecDepth 20000 in
set_option maxHeartbeats 1000000 in
theorem Repeat_any (b : Nat) (x : Int) (n : Nat) (w : World) (h1 : 1 ≤ n) (h24 : n ≤ 24) (hb : b < w.heap.size) (hc : w.cell? ⟨b, 0, none⟩ = some (.int .i64 x)) :
    Calls Try.prog 55 #[.slice (some ⟨b, 0, none⟩) 1 1, .int .i64 (n : Nat)] w fun e w' => ∃ v, e = .returned v ∧ OwnI 3 w.heap.size w' v (List.replicate n x) ∧ Below w.heap.size w w' := by
  have M := Lib.hid (Mul_one n (by omega) w)
  have MZ := make_Z n (by omega) w
  have info : (Try.prog.info? 3).map (·.size) = some 1 := by kernel_rfl
  have hni : (n : Int) ≤ 24 := by omega
  have hn1 : (1 : Int) ≤ (n : Int) := by omega
  have hbig : decide ((9223372036854775807 : Int) < (n : Int)) = false := by simp; omega
  have hneg : decide ((n : Int) < 0) = false := by simp
  have HC := Lib.hid hc
  have HZ0 := Lib.hid (show (toI (List.replicate n 0)).map (Value.int .i64) = (repTo x n 0).map (Value.int .i64) by simp [toI, repTo])
  go_enter Try.func55, Try.ntmps55
  go_wp2_with (first
    | (go_at_call 84; refine M.out.mono ?_; rintro e w' ⟨rfl, rfl⟩)
    | (refine wpList_copy_splice rfl _ _ _ _ rfl 3 Try.underlying28 info _ _ _ _ _ _ rfl rfl w.heap.size 0 ((repTo x n 0).map (Value.int .i64)) 3 ?h1 ((List.replicate 1 x).map (Value.int .i64)) ?h2 ?h3 ?h4 ?h5 w.heap.size w ?h6 ?h7 ?_; (case h1 => rw [← HZ0.out]; exact mkZ_heap n w); (case h2 => show 1 = min 1 n; omega); (case h3 => exact fun _ => ⟨rfl, ⟨b, 0, none⟩, rfl, fun j v hj => (by
        match j, hj with
        | 0, hj => simp at hj; subst hj; exact ((mkZ_below n w).cell (p := ⟨b, 0, none⟩) hb).trans HC.out)⟩); (case h4 => simp [repTo]; omega); (case h5 => intro u hu; simp at hu; subst hu; rfl); (case h6 => exact mkZ_below n w); (case h7 => exact Nat.le_refl _); intro w2 HG2 hb2; have HR2 := Lib.hid (show RepI x n 1 w.heap.size w w2 from ⟨by have := HG2.out; rw [repTo_splice x n 0 1 (by omega)] at this; exact this, hb2⟩); clear HG2 hb2))
  go_loopw [8] (fun mv wr => ∃ m : Nat, 1 ≤ m ∧ m ≤ n ∧ mv = .int .i64 m ∧ RepI x n m w.heap.size w wr) (fun mv _ => n - (intOf mv).toNat)
  case atStart => exact ⟨1, Nat.le_refl _, h1, by simp, HR2.out⟩
  case round =>
    obtain ⟨m, hm1, hmn, rfl, hr⟩ := hrel
    have HR := Lib.hid hr
    by_cases hlt : m < n
    · have hmi : (m : Int) < (n : Int) := by omega
      have hmp : (1 : Int) ≤ (m : Int) := by omega
      obtain ⟨k, hk⟩ : ∃ k, min m (n - m) = k := ⟨_, rfl⟩
      have hk1 : 1 ≤ k ∧ k ≤ m ∧ m + k ≤ n := by omega
      obtain ⟨w3, hrun, hR3⟩ := copy_rep (n := n) (k := k) (⟨HR.out.1, HR.out.2.drew⟩ : RepI x n m w.heap.size w wr.drew) (Nat.le_refl _) (by omega) hk1.2.2
      have HR3 := Lib.hid hR3
      clear hR3 hr
      have hs : IntKind.i64.wrap ((m : Int) + (k : Int)) = (m : Int) + (k : Int) := IntWalk.i64_in _ (by omega)
      have hs0 : (0 : Int) ≤ (m : Int) := by omega
      go_wp2
      go_region_with (fail)
      all_goals
        go_wp2
        go_roundw
        case rel => exact ⟨_, _, _, _, _, _, _, _, _, _, _, _, _, _, ⟨m + k, by omega, hk1.2.2, rfl, HR3.out⟩, rfl⟩
        case measure =>
          show n - (intOf (.int .i64 ((m : Int) + (k : Int)))).toNat < _
          simp [intOf]; omega
    · obtain rfl : m = n := by omega
      have hmi : ¬ (m : Int) < (m : Int) := by omega
      have HRL := Lib.hid (show OwnI 3 w.heap.size wr (.slice (some ⟨w.heap.size, 0, none⟩) m m) (List.replicate m x) from by
        have h0 := hr.1
        rw [repTo_all] at h0
        exact ⟨by simp, .inr ⟨w.heap.size, m, _, by simp, Nat.le_refl _, h0, by simp, by unfold maxLen; omega, by simp, by simp [List.take_of_length_le]⟩⟩)
      clear hr
      go_wp2
      go_ret
      exact ⟨_, rfl, HRL.out, HR.out.2⟩
end Go.Proofs.Ytdackakjcnnofaa

/- slices.Sort over numbers. -/
namespace Go.Proofs.Ytdackakjcnnofaa
open Go.RowKit Go.Shelf Go.Lib Go.Sort

def sortL (xs : List Int) : List Int := xs.mergeSort fun x y => decide (x ≤ y)
theorem sortL_perm (xs : List Int) : (sortL xs).Perm xs := List.mergeSort_perm _ _
theorem sortL_length (xs : List Int) : (sortL xs).length = xs.length := (sortL_perm xs).length_eq
theorem sortL_sorted (xs : List Int) : (sortL xs).Pairwise (· ≤ ·) := by
  have := List.pairwise_mergeSort (le := fun x y : Int => decide (x ≤ y)) (fun a b c h1 h2 => by simp only [decide_eq_true_eq] at h1 h2 ⊢; omega) (fun a b => by simp only [Bool.or_eq_true, decide_eq_true_eq]; omega) xs
  exact this.imp fun {a b} h => by simpa using h
/-- A sorted permutation is the sorted list. -/
theorem sortL_eq {xs ys : List Int} (hp : ys.Perm xs) (hs : ys.Pairwise (· ≤ ·)) : sortL xs = ys :=
  ((sortL_perm xs).trans hp.symm).eq_of_pairwise (fun a b _ _ h1 h2 => by omega) (sortL_sorted xs) hs
theorem sortI_any {B g cap : Nat} {w : World} {xs : List Int} (h : OwnI 3 B w (.slice (some ⟨g, 0, none⟩) xs.length cap) xs) (hlen : xs.length ≤ 100000) :
    Calls Try.prog 31 #[.slice (some ⟨g, 0, none⟩) xs.length cap] w fun e w' => e = .returned (.tuple #[]) ∧ OwnI 3 B w' (.slice (some ⟨g, 0, none⟩) xs.length cap) (sortL xs) ∧ w.grownBy w' (some g) := by
  unfold OwnI World.ownsRow at h
  rcases h.2 with ⟨h', _⟩ | ⟨g', cap', cur, h', hB, hg, hn, hcap, hsz, hx⟩
  · simp at h'
  · obtain ⟨hgg, _, hcc⟩ := Value.slice.inj h'
    obtain rfl : g = g' := by simpa using hgg
    subst hcc
    have hblk : g < w.heap.size := (Array.getElem?_eq_some_iff.1 hg).1
    have hx' : cur.toList.take xs.length = xs.map (Value.int .i64) := by simpa using hx
    have hS := AnyM.slices_Sort_int layI g 0 cap xs w (holds_of_blockI hg hx') hblk (by omega)
    change Calls Try.prog 31 _ _ _ at hS
    refine hS.mono fun e w' ⟨he, n, os, hw⟩ => ?_
    subst hw
    refine ⟨he, ?_, grownBy_sortedI _⟩
    have := ownsRow_sortedI (n := n) (os := os) (ss := xs) (ts := sortL xs) (sortL_length xs) hB hg hn hcap hsz
    unfold OwnI
    rw [sortL_length]
    exact this
end Go.Proofs.Ytdackakjcnnofaa

/- What is held while the program makes a group's classes. -/
namespace Go.Proofs.Ytdackakjcnnofaa
open Go.RowKit

theorem ElsAt.sm {P : Nat → Prop} {w w' : World} {v : Value} {L : List (List Int)} (h : ElsAt w v L) (hs : Sm P w w') (hP : ∀ k, v.ownBlock = some k → P k) : ElsAt w' v L := by
  obtain ⟨g, cap, rfl, h0, h1, h2⟩ := h
  exact ⟨g, cap, rfl, h0, Nat.lt_of_lt_of_le h1 hs.size, fun i hi j hj => (World.cell?_of_block (hs.block g (hP g rfl) h1)).trans (h2 i hi j hj)⟩
/-- The group at bg while its classes are made: vC, vO, vB are its own slices, from block H on. -/
structure SrI (d : Nat) (E : List (List Nat)) (H bg : Nat) (S : Nat → Prop) (w : World) (vE : Value) (bM : Nat) (vC vO vB : Value) (C : List (List Nat)) (O : List Int) (B : List Nat) (q : Int) : Prop where
  box : Held w bg 52 [.int .i64 (d : Nat), vE, .map (some bM), vC, vO, vB, .int .i64 q]
  els : ElsAt w vE (elsI d E)
  map : MapE w bM (elsI d E)
  c : RowsF S H w vC C
  o : OwnI 3 H w vO O
  b : OwnI 3 H w vB (toI B)
  hS : ∀ k, S k → typeAt w k = some 3 ∧ vB.ownBlock ≠ some k ∧ vO.ownBlock ≠ some k
  bo : ∀ k, vB.ownBlock = some k → vO.ownBlock ≠ some k
  lt : bg < H ∧ bM < H ∧ bM ≠ bg ∧ ∀ k, vE.ownBlock = some k → k < H ∧ k ≠ bg
  sH : ∀ k, S k → H ≤ k
section
variable {d H bg bM : Nat} {E : List (List Nat)} {S : Nat → Prop} {w w1 w2 : World} {vE vC vO vB v' u : Value} {C : List (List Nat)} {O : List Int} {B l : List Nat} {q : Int}
theorem SrI.gt (h : SrI d E H bg S w vE bM vC vO vB C O B q) : GT d E w bg vE bM := ⟨h.box.lt, h.box.at (i := 1) rfl, h.box.at (i := 2) rfl, h.els, h.map⟩
theorem SrI.kept (h : SrI d E H bg S w vE bM vC vO vB C O B q) {P : Nat → Prop} (hs : Sm P w w1) (pH : ∀ k, k < H → P k) (pC : ∀ k, vC.ownBlock = some k → P k) (pO : ∀ k, vO.ownBlock = some k → P k) (pB : ∀ k, vB.ownBlock = some k → P k) (pS : ∀ k, S k → P k) : SrI d E H bg S w1 vE bM vC vO vB C O B q :=
  ⟨h.box.sm hs (pH _ h.lt.1), h.els.sm hs (fun k hk => pH k (h.lt.2.2.2 k hk).1), h.map.sm hs (pH _ h.lt.2.1), h.c.kept hs pS pC, own_sm h.o hs pO, own_sm h.b hs pB, fun k hk => ⟨by rw [ty_block (hs.block k (pS k hk) (ty_lt (h.hS k hk).1))]; exact (h.hS k hk).1, (h.hS k hk).2⟩, h.bo, h.lt, h.sH⟩
theorem SrI.below (h : SrI d E H bg S w vE bM vC vO vB C O B q) (hb : Below w.heap.size w w1) : SrI d E H bg S w1 vE bM vC vO vB C O B q :=
  h.kept (P := fun _ => True) (Sm.of_below hb) (fun _ _ => trivial) (fun _ _ => trivial) (fun _ _ => trivial) (fun _ _ => trivial) (fun _ _ => trivial)
theorem loc_new' {v v' : Value} {n : Nat} (ho : v'.ownBlock = v.ownBlock ∨ v'.ownBlock = some n) {k : Nat} (h : v'.ownBlock = some k) (hk : k < n) : v.ownBlock = some k := by
  rcases ho with ho | ho
  · rw [← ho]; exact h
  · rw [ho] at h; cases h; omega
/-- A cell of the group's own block is stored. -/
theorem SrI.stored (h : SrI d E H bg S w vE bM vC vO vB C O B q) (j : Nat) (x : Value) : ElsAt (w.setCell ⟨bg, j, none⟩ x) vE (elsI d E) ∧ MapE (w.setCell ⟨bg, j, none⟩ x) bM (elsI d E) ∧ Sm (fun k => k ≠ bg) w (w.setCell ⟨bg, j, none⟩ x) :=
  ⟨h.els.sm (Sm.put bg j x) (fun k hk => (h.lt.2.2.2 k hk).2), h.map.sm (Sm.put bg j x) h.lt.2.2.1, Sm.put bg j x⟩
/-- The classes are another slice. -/
theorem SrI.classed (h : SrI d E H bg S w vE bM vC vO vB C O B q) (hb : Below w.heap.size w w1) {S' : Nat → Prop} (hS' : ∀ k, S' k → typeAt w1 k = some 3 ∧ vB.ownBlock ≠ some k ∧ vO.ownBlock ≠ some k) (hSH : ∀ k, S' k → H ≤ k) {C' : List (List Nat)}
    (hr : RowsF S' H w2 v' C') (hg : w1.grownBy w2 vC.ownBlock) : SrI d E H bg S' (w2.setCell ⟨bg, 3, none⟩ v') vE bM v' vO vB C' O B q := by
  have h1 := h.below hb
  have sg : Sm (fun k => some k ≠ vC.ownBlock) w1 w2 := Sm.of_grown hg fun _ hk => hk
  have ne : ∀ {k : Nat}, typeAt w1 k ≠ some 28 → some k ≠ vC.ownBlock := fun hk e => hk (h1.c.ty e.symm)
  have lo : ∀ k, k < H → some k ≠ vC.ownBlock := fun k hk e => by have := (h1.c.own k e.symm).1; omega
  have g1 := h1.box.sm sg (lo _ h.lt.1)
  have g2 := h1.els.sm sg (fun k hk => lo k (h.lt.2.2.2 k hk).1)
  have g3 := h1.map.sm sg (lo _ h.lt.2.1)
  have g4 := own_sm' h1.o sg (fun k hk => ne (by rw [own_ty h1.o hk]; decide))
  have g5 := own_sm' h1.b sg (fun k hk => ne (by rw [own_ty h1.b hk]; decide))
  have g6 : ∀ k, S' k → typeAt w2 k = some 3 := fun k hk => by rw [ty_block (sg.block k (ne (by rw [(hS' k hk).1]; decide)) (ty_lt (hS' k hk).1))]; exact (hS' k hk).1
  have st := Sm.put (w := w2) bg 3 v'
  have hi : ∀ k, H ≤ k → k ≠ bg := fun k hk => by have := h.lt.1; omega
  exact ⟨by exact g1.put 3 v', g2.sm st (fun k hk => (h.lt.2.2.2 k hk).2), g3.sm st h.lt.2.2.1, hr.kept st (fun k hk => hi k (hSH k hk)) (fun k hk => hi k (hr.own k hk).1), own_sm g4 st (fun k hk => hi k (World.ownsRow.lt g4 k hk).1), own_sm g5 st (fun k hk => hi k (World.ownsRow.lt g5 k hk).1),
    fun k hk => ⟨by rw [ty_block (st.block k (hi k (hSH k hk)) (ty_lt (g6 k hk)))]; exact g6 k hk, (hS' k hk).2⟩, h.bo, h.lt, hSH⟩
/-- The classes of the inverses are another slice. -/
theorem SrI.backed (h : SrI d E H bg S w vE bM vC vO vB C O B q) (hb : Below w.heap.size w w1) {B' : List Nat} (hr : OwnI 3 H w2 v' (toI B')) (hg : w1.grownBy w2 vB.ownBlock) (ho : v'.ownBlock = vB.ownBlock ∨ v'.ownBlock = some w1.heap.size) : SrI d E H bg S (w2.setCell ⟨bg, 5, none⟩ v') vE bM vC vO v' C O B' q := by
  have h1 := h.below hb
  have sg : Sm (fun k => some k ≠ vB.ownBlock) w1 w2 := Sm.of_grown hg fun _ hk => hk
  have ne : ∀ {k : Nat}, typeAt w1 k ≠ some 3 → some k ≠ vB.ownBlock := fun hk e => hk (own_ty h1.b e.symm)
  have lo : ∀ k, k < H → some k ≠ vB.ownBlock := fun k hk e => by have := (World.ownsRow.lt h1.b k e.symm).1; omega
  have pS : ∀ k, S k → some k ≠ vB.ownBlock := fun k hk e => (h.hS k hk).2.1 e.symm
  have g1 := h1.box.sm sg (lo _ h.lt.1)
  have g2 := h1.els.sm sg (fun k hk => lo k (h.lt.2.2.2 k hk).1)
  have g3 := h1.map.sm sg (lo _ h.lt.2.1)
  have g4 := own_sm' h1.o sg (fun k hk e => h.bo k e.symm hk)
  have g5 := h1.c.kept sg pS (fun k hk => ne (by rw [h1.c.ty hk]; decide))
  have g6 : ∀ k, S k → typeAt w2 k = some 3 := fun k hk => by rw [ty_block (sg.block k (pS k hk) (ty_lt (h1.hS k hk).1))]; exact (h1.hS k hk).1
  have st := Sm.put (w := w2) bg 5 v'
  have hi : ∀ k, H ≤ k → k ≠ bg := fun k hk => by have := h.lt.1; omega
  exact ⟨by exact g1.put 5 v', g2.sm st (fun k hk => (h.lt.2.2.2 k hk).2), g3.sm st h.lt.2.2.1, g5.kept st (fun k hk => hi k (h.sH k hk)) (fun k hk => hi k (g5.own k hk).1), own_sm g4 st (fun k hk => hi k (World.ownsRow.lt g4 k hk).1), own_sm hr st (fun k hk => hi k (World.ownsRow.lt hr k hk).1),
    fun k hk => ⟨by rw [ty_block (st.block k (hi k (h.sH k hk)) (ty_lt (g6 k hk)))]; exact g6 k hk, fun e => (h.hS k hk).2.1 (loc_new' ho e (ty_lt (h1.hS k hk).1)), (h.hS k hk).2.2⟩, fun k hk e => h.bo k (loc_new' ho hk (World.ownsRow.lt h1.o k e).2) e, h.lt, h.sH⟩
/-- The class numbers are a new slice. -/
theorem SrI.numbered (h : SrI d E H bg S w vE bM vC vO vB C O B q) (hH : H ≤ w.heap.size) (hb : Below w.heap.size w w1) {O' : List Int} (hr : OwnI 3 w.heap.size w1 v' O') : SrI d E H bg S (w1.setCell ⟨bg, 4, none⟩ v') vE bM vC v' vB C O' B q := by
  have h1 := h.below hb
  have st := Sm.put (w := w1) bg 4 v'
  have fr : ∀ k, v'.ownBlock = some k → w.heap.size ≤ k := fun k hk => (World.ownsRow.lt hr k hk).1
  have hi : ∀ k, H ≤ k → k ≠ bg := fun k hk => by have := h.lt.1; omega
  have hov : OwnI 3 H w1 v' O' := hr.mono hH
  exact ⟨by exact h1.box.put 4 v', h1.els.sm st (fun k hk => (h.lt.2.2.2 k hk).2), h1.map.sm st h.lt.2.2.1, h1.c.kept st (fun k hk => hi k (h.sH k hk)) (fun k hk => hi k (h1.c.own k hk).1), own_sm hov st (fun k hk => hi k (World.ownsRow.lt hov k hk).1), own_sm h1.b st (fun k hk => hi k (World.ownsRow.lt h1.b k hk).1),
    fun k hk => ⟨by rw [ty_block (st.block k (hi k (h.sH k hk)) (ty_lt (h1.hS k hk).1))]; exact (h1.hS k hk).1, (h1.hS k hk).2.1, fun e => by have := fr k e; have := ty_lt (h.hS k hk).1; omega⟩, fun k hk e => by have := fr k e; have := (World.ownsRow.lt h.b k hk).2; omega, h.lt, h.sH⟩
/-- One class number is laid. -/
theorem SrI.put {g cap : Nat} (h : SrI d E H bg S w vE bM vC (.slice (some ⟨g, 0, none⟩) O.length cap) vB C O B q) (j : Nat) (y : Int) : SrI d E H bg S (w.setCell ⟨g, j, none⟩ (.int .i64 y)) vE bM vC (.slice (some ⟨g, 0, none⟩) O.length cap) vB C (O.set j y) B q := by
  have hg : (Value.slice (some ⟨g, 0, none⟩) O.length cap).ownBlock = some g := rfl
  have st := Sm.put (w := w) g j (.int .i64 y)
  have hgl := World.ownsRow.lt h.o g hg
  have tg := own_ty h.o hg
  have nt : ∀ {k : Nat}, typeAt w k ≠ some 3 → k ≠ g := fun hk => ty_ne (by rw [tg]; exact hk)
  have pS : ∀ k, S k → k ≠ g := fun k hk e => (h.hS k hk).2.2 (by rw [e]; rfl)
  have lo : ∀ k, k < H → k ≠ g := fun k hk => by have := hgl.1; omega
  exact ⟨h.box.sm st (lo _ h.lt.1), h.els.sm st (fun k hk => lo k (h.lt.2.2.2 k hk).1), h.map.sm st (lo _ h.lt.2.1), h.c.kept st pS (fun k hk => nt (by rw [h.c.ty hk]; decide)), h.o.stored j y, own_sm h.b st (fun k hk e => h.bo k hk (by rw [e]; rfl)),
    fun k hk => ⟨by rw [ty_block (st.block k (pS k hk) (ty_lt (h.hS k hk).1))]; exact (h.hS k hk).1, (h.hS k hk).2⟩, h.bo, h.lt, h.sH⟩
/-- A new row's block may join those of the rows. -/
theorem SrI.join (h : SrI d E H bg S w vE bM vC vO vB C O B q) (hb : Below w.heap.size w w1) (hH : H ≤ w.heap.size) {xs : List Int} (hu : OwnI 3 w.heap.size w1 u xs) : ∀ k, (S k ∨ u.ownBlock = some k) → typeAt w1 k = some 3 ∧ vB.ownBlock ≠ some k ∧ vO.ownBlock ≠ some k ∧ H ≤ k := by
  intro k hk
  rcases hk with hk | hk
  · have := (h.below hb).hS k hk; exact ⟨this.1, this.2.1, this.2.2, h.sH k hk⟩
  · have h0 := World.ownsRow.lt hu k hk
    refine ⟨own_ty hu hk, fun e => ?_, fun e => ?_, by omega⟩
    · have h2 := (World.ownsRow.lt h.b k e).2; omega
    · have h2 := (World.ownsRow.lt h.o k e).2; omega
end
end Go.Proofs.Ytdackakjcnnofaa

/- What is held while the program closes a group. -/
namespace Go.Proofs.Ytdackakjcnnofaa
open Go.RowKit

theorem size_elems : (Try.prog.info? 49).map (·.size) = some 1 := by kernel_rfl
structure ClI (d : Nat) (gens : List (List Nat)) (H bg bK : Nat) (w : World) (vB vE : Value) (l : List (List Nat)) : Prop where
  box : Held w bg 52 [.int .i64 (d : Nat), vE, .map none, .slice none 0 0, .slice none 0 0, .slice none 0 0, .int .i64 0]
  gen : ElsAt w vB (elsI d gens)
  els : OwnE H w vE (elsI d l)
  map : MapB w bK (elsI d l)
  lt : bg < H ∧ bK < H ∧ bK ≠ bg ∧ ∀ k, vB.ownBlock = some k → k < H ∧ k ≠ bg ∧ k ≠ bK
section
variable {d H bg bK : Nat} {gens l l' : List (List Nat)} {w w1 w2 w3 w4 : World} {vB vE v' : Value}
theorem ClI.kept (h : ClI d gens H bg bK w vB vE l) {P : Nat → Prop} (hs : Sm P w w1) (pH : ∀ k, k < H → P k) (pE : ∀ k, vE.ownBlock = some k → P k) : ClI d gens H bg bK w1 vB vE l :=
  ⟨h.box.sm hs (pH _ h.lt.1), h.gen.sm hs (fun k hk => pH k (h.lt.2.2.2 k hk).1), own_sm h.els hs pE, h.map.sm hs (pH _ h.lt.2.1), h.lt⟩
theorem ClI.below (h : ClI d gens H bg bK w vB vE l) (hb : Below w.heap.size w w1) : ClI d gens H bg bK w1 vB vE l :=
  h.kept (P := fun _ => True) (Sm.of_below hb) (fun _ _ => trivial) (fun _ _ => trivial)
/-- An element more is known. -/
theorem ClI.known (h : ClI d gens H bg bK w vB vE l) (hs : Sm (fun k => k ≠ bK) w w1) : Held w1 bg 52 [.int .i64 (d : Nat), vE, .map none, .slice none 0 0, .slice none 0 0, .slice none 0 0, .int .i64 0] ∧ ElsAt w1 vB (elsI d gens) ∧ OwnE H w1 vE (elsI d l) :=
  ⟨h.box.sm hs (Ne.symm h.lt.2.2.1), h.gen.sm hs (fun k hk => (h.lt.2.2.2 k hk).2.2), own_sm h.els hs (fun k hk => by have := (World.ownsRow.lt h.els k hk).1; have := h.lt.2.1; omega)⟩
/-- .. and is one of the elements. -/
theorem ClI.next (h : ClI d gens H bg bK w vB vE l) (hs : Sm (fun k => k ≠ bK) w w1) (hm : MapB w1 bK (elsI d l')) (hb : Below w1.heap.size w1 w2) (he : OwnE H w3 v' (elsI d l')) (hg : w2.grownBy w3 vE.ownBlock) : ClI d gens H bg bK (w3.setCell ⟨bg, 1, none⟩ v') vB v' l' := by
  obtain ⟨a1, a2, a3⟩ := h.known hs
  have s12 : Sm (fun _ => True) w1 w2 := Sm.of_below hb
  have sg : Sm (fun k => some k ≠ vE.ownBlock) w2 w3 := Sm.of_grown hg fun _ hk => hk
  have lo : ∀ k, k < H → some k ≠ vE.ownBlock := fun k hk e => by have := (World.ownsRow.lt h.els k e.symm).1; omega
  have st := Sm.put (w := w3) bg 1 v'
  have b1 := (a1.sm s12 trivial).sm sg (lo _ h.lt.1)
  have b2 := (a2.sm s12 (fun _ _ => trivial)).sm sg (fun k hk => lo k (h.lt.2.2.2 k hk).1)
  have b3 := (hm.sm s12 trivial).sm sg (lo _ h.lt.2.1)
  exact ⟨by exact b1.put 1 v', b2.sm st (fun k hk => (h.lt.2.2.2 k hk).2.1), own_sm he st (fun k hk => by have := (World.ownsRow.lt he k hk).1; have := h.lt.1; show k ≠ bg; omega), b3.sm st h.lt.2.2.1, h.lt⟩
end
theorem elsI_snoc (d : Nat) (l : List (List Nat)) (x : List Nat) : elsI d (l ++ [x]) = elsI d l ++ [elI d x] := by simp [elsI]
theorem OwnE.cells {B : Nat} {w : World} {v : Value} {L : List (List Int)} (h : OwnE B w v L) (hL : ∀ l ∈ L, l.length = 5) (i : Nat) (hi : i < L.length) : ∃ g cap, v = .slice (some ⟨g, 0, none⟩) L.length cap ∧ g < w.heap.size ∧ ∀ j, j < 5 → w.cell? ⟨g, i * 5 + j, none⟩ = (cs5 L[i])[j]? := by
  obtain ⟨g, cap, e, _, hg, hc⟩ := h.els hL (by omega)
  exact ⟨g, cap, e, hg, fun j hj => hc i hi j hj⟩
/-- The state before the first round. -/
theorem ClI.start {d bg : Nat} {gens : List (List Nat)} {wb W : World} {vB vE : Value} (hd : d ≤ 5) (hbx : Held wb bg 52 [.int .i64 (d : Nat), vE, .map none, .slice none 0 0, .slice none 0 0, .slice none 0 0, .int .i64 0]) (hg : ElsAt wb vB (elsI d gens)) (hl : ∀ k, vB.ownBlock = some k → k ≠ bg)
    (hm : MapB W wb.heap.size [elI d (oneP d)]) (hs : Sm (fun k => k ≠ wb.heap.size) (wb.alloc (.map #[] 0)) W) (hz : W.heap.size = (wb.alloc (.map #[] 0)).heap.size) {cs : Array Value} (hcs : cs = (cs5 (elI d (oneP d))).toArray) {n : Nat} (hn : n = W.heap.size) {v' : Value} (hv : v' = .slice (some ⟨n, 0, none⟩) 1 1) :
    ClI d gens (wb.heap.size + 1) bg wb.heap.size ((W.alloc (.cells cs 54)).setCell ⟨bg, 1, none⟩ v') vB v' [oneP d] := by
  subst hcs hn hv
  have hz' : W.heap.size = wb.heap.size + 1 := by simpa using hz
  have hb : Below wb.heap.size wb (wb.alloc (.map #[] 0)) := (Below.refl _ _).alloc (Nat.le_refl _) _
  have hlt := hbx.lt
  have h1 : Held W bg 52 _ := (hbx.alloc (.map #[] 0)).sm hs (by show bg ≠ _; omega)
  have hgl : ∀ k, vB.ownBlock = some k → k < wb.heap.size := by
    obtain ⟨g, cap, rfl, _, h2, _⟩ := hg
    intro k hk
    cases hk; exact h2
  have h2 : ElsAt W vB (elsI d gens) := (hg.below hb).sm hs (fun k hk => by have := hgl k hk; show k ≠ _; omega)
  have ha : Sm (fun _ => True) W (W.alloc (.cells (cs5 (elI d (oneP d))).toArray 54)) := Sm.of_below ((Below.refl _ _).alloc (Nat.le_refl _) _)
  have st := Sm.put (w := W.alloc (.cells (cs5 (elI d (oneP d))).toArray 54)) bg 1 (.slice (some ⟨W.heap.size, 0, none⟩) 1 1)
  have h3 : OwnE (wb.heap.size + 1) (W.alloc (.cells (cs5 (elI d (oneP d))).toArray 54)) (.slice (some ⟨W.heap.size, 0, none⟩) 1 1) (elsI d [oneP d]) := by
    have := World.ownsRow_lit (base := wb.heap.size + 1) (e := 54) (size := 5) W (cs5 (elI d (oneP d))).toArray 1 (by omega) (by decide) (by simp [cs5_length, elI_len hd (Perm1.one d)])
    simpa [OwnE, elsI] using this
  refine ⟨by exact (h1.sm ha trivial).put 1 _, (h2.sm ha fun _ _ => trivial).sm st (fun k hk => hl k hk), own_sm h3 st (fun k hk => ?_), (hm.sm ha trivial).sm st ?_, by omega, by omega, by omega, fun k hk => ⟨?_, hl k hk, ?_⟩⟩
  · cases hk; show W.heap.size ≠ bg; omega
  · show wb.heap.size ≠ bg; omega
  · have := hgl k hk; omega
  · have := hgl k hk; omega
end Go.Proofs.Ytdackakjcnnofaa

/- Elements in a region that draws its order: step laws. -/
namespace Go.Proofs.Ytdackakjcnnofaa
open Go.RowKit

section
variable {ops : Array Oper} {o : Oper} {a : Act} {w : World} {Q : Exit → Act → World → Prop} {K : Act → World → Prop} {E : Prop}
theorem wanted_of (hg : o.guard = none) : Region.wanted o (yielded ops a.tmps) = true := by simp [Region.wanted, hg]
/-- An element is loaded. -/
theorem step_load_elem (hg : o.guard = none) (x : Operand) (ho : o.op = .load 54 x) (b i : Nat) (l : List Int) (hl : l.length = 5) (hx : a.eval x = .pointer (some ⟨b, i, none⟩)) (hc : w.rangeAt b i (cs5 l))
    (hK : K (a.put o.dst (.agg (cs5 l).toArray)) w) : if Region.wanted o (yielded ops a.tmps) = true then Oper.wp Try.prog o a w K Q else E := by
  rw [if_pos (wanted_of hg)]
  exact wp_load_mid 54 x ho b i hx (cs5 l) _ hc Try.underlying54 rfl (infoLl hl) hK
/-- .. stored over a block of one. -/
theorem step_store_elem (hg : o.guard = none) (x y : Operand) (ho : o.op = .store 54 x y) (b : Nat) (l l0 : List Int) (hl : l.length = 5) (hl0 : l0.length = 5) (hx : a.eval x = .pointer (some ⟨b, 0, none⟩)) (hy : a.eval y = .agg (cs5 l).toArray) (h0 : Held w b 54 (cs5 l0))
    (hK : ∀ W, Held W b 54 (cs5 l) → Sm (fun k => k ≠ b) w W → W.heap.size = w.heap.size → K (a.put o.dst undef) W) : if Region.wanted o (yielded ops a.tmps) = true then Oper.wp Try.prog o a w K Q else E := by
  rw [if_pos (wanted_of hg)]
  have ht : w.there b 0 (cs5 l).toArray.size := by
    have := h0.there
    rw [cs5_length, hl0] at this
    rw [cs5_size hl]; exact this
  exact wp_store_mid 54 x y ho b 0 (cs5 l).toArray hx hy ht (infoL hl) (all_oneCell_toArray (cs5_one _)) (hK _ (h0.over (cs5 l) (by rw [cs5_length, cs5_length, hl, hl0])) (Sm.setCells _ _ _ _) (setCells_size _ _ _ _))
/-- A value of one cell is stored. -/
theorem step_store_one {ty : TypeId} (hi : (Try.prog.info? ty).map (·.size) = some 1) (hg : o.guard = none) (x y : Operand) (ho : o.op = .store ty x y)
    (b i : Nat) {t : TypeId} {l : List Value} {v : Value} (hx : a.eval x = .pointer (some ⟨b, i, none⟩)) (hy : a.eval y = v) (hv : v.cells = #[v]) (h1 : v.oneCell' = true) (hil : i < l.length) (h0 : Held w b t l)
    (hK : ∀ W, W = w.setCell ⟨b, i, none⟩ v → K (a.put o.dst undef) W) : if Region.wanted o (yielded ops a.tmps) = true then Oper.wp Try.prog o a w K Q else E := by
  rw [if_pos (wanted_of hg)]
  have hc : (w.cell? ⟨b, i, none⟩).isSome = true := by rw [h0.at (List.getElem?_eq_getElem hil)]; rfl
  have hK2 := hK _ rfl
  unfold Oper.wp execOp
  simp only [ho, hx, hy, Instr.storeAt, Instr.sureAddr, Sem.run_bind, Sem.run_pure, Result.andThen_ok, run_storeVar_one w b i ty v hc (h0.free i) hi hv h1]
  exact hK2
/-- An element is appended. -/
theorem step_appE (hg : o.guard = none) (s y : Operand)
    (hop : o.op = Op.call { callee := Callee.builtin Builtin.append, args := #[s, y], argTypes := #[49, 49] }) (B b : Nat) (v : Value) (L : List (List Int)) (x : List Int) (hs : a.eval s = v) (h : OwnE B w v L) (hx : x.length = 5)
    (hy : a.eval y = .slice (some ⟨b, 0, none⟩) 1 1) (hb : Held w b 54 (cs5 x)) (hl : L.length < 1000000) (hB : B ≤ w.heap.size)
    (hK : ∀ v' w', OwnE B w' v' (L ++ [x]) → w.grownBy w' v.ownBlock → (v'.ownBlock = v.ownBlock ∨ v'.ownBlock = some w.heap.size) → K (a.put o.dst v') w') : if Region.wanted o (yielded ops a.tmps) = true then Oper.wp Try.prog o a w K Q else E := by
  rw [if_pos (wanted_of hg)]
  obtain ⟨v', w', hrun, r1, r2, r3⟩ := run_appE (ty := o.type) h hx hb hl hB
  have hK2 := hK v' w' r1 r2 r3
  unfold Oper.wp
  simp [execOp, hop, resolve, invoke, builtin, hs, hy, Result.andThen]
  rw [hrun]
  exact hK2
end
theorem ElsAt.range {w : World} {g n cap : Nat} {L : List (List Int)} (h : ElsAt w (.slice (some ⟨g, 0, none⟩) n cap) L) {i : Nat} {x : List Int} (hx : L[i]? = some x) (h5 : x.length = 5) : w.rangeAt g (i * 5) (cs5 x) := by
  obtain ⟨g', cap', e, _, _, hc⟩ := h
  obtain ⟨e1, -, -⟩ := Value.slice.inj e
  have : g = g' := by simpa using e1
  subst this
  intro j v hv
  obtain ⟨hi, hxi⟩ := List.getElem?_eq_some_iff.1 hx
  have hj : j < 5 := by have := (List.getElem?_eq_some_iff.1 hv).1; rwa [cs5_length, h5] at this
  have := hc i hi j hj
  rw [hxi] at this
  exact this.trans hv
theorem elsI_get {d : Nat} {E : List (List Nat)} {k : Nat} {x : List Nat} (h : E[k]? = some x) : (elsI d E)[k]? = some (elI d x) := by simp [elsI, h]
theorem put5 {w : World} {b : Nat} {z0 z1 z2 z3 z4 : Int} (h : Held w b 54 (cs5 zeroE)) : Held (((((w.setCell ⟨b, 0, none⟩ (.int .i64 z0)).setCell ⟨b, 1, none⟩ (.int .i64 z1)).setCell ⟨b, 2, none⟩ (.int .i64 z2)).setCell ⟨b, 3, none⟩ (.int .i64 z3)).setCell ⟨b, 4, none⟩ (.int .i64 z4)) b 54 (cs5 [z0, z1, z2, z3, z4]) :=
  ((((h.put 0 (.int .i64 z0)).put 1 (.int .i64 z1)).put 2 (.int .i64 z2)).put 3 (.int .i64 z3)).put 4 (.int .i64 z4)
theorem below5 {a w : World} {b B : Nat} {z0 z1 z2 z3 z4 : Int} (h : Below B a w) (hb : B ≤ b) : Below B a (((((w.setCell ⟨b, 0, none⟩ (.int .i64 z0)).setCell ⟨b, 1, none⟩ (.int .i64 z1)).setCell ⟨b, 2, none⟩ (.int .i64 z2)).setCell ⟨b, 3, none⟩ (.int .i64 z3)).setCell ⟨b, 4, none⟩ (.int .i64 z4)) :=
  ((((h.setCell (p := ⟨b, 0, none⟩) hb _).setCell (p := ⟨b, 1, none⟩) hb _).setCell (p := ⟨b, 2, none⟩) hb _).setCell (p := ⟨b, 3, none⟩) hb _).setCell (p := ⟨b, 4, none⟩) hb _
/-- A fresh block of five, filled: made before a call, or behind it. -/
def Box5 (W : World) (l : List Int) (v : Value) (w : World) : Prop := ∃ b, v = .pointer (some ⟨b, 0, none⟩) ∧ Held w b 54 (cs5 l) ∧ Below W.heap.size W w
theorem box5_a {W w6 : World} {o : Obj} {z0 z1 z2 z3 z4 : Int} (hb : Below (W.alloc o).drew.heap.size (W.alloc o).drew w6) (hh : Held w6 W.heap.size 54 (cs5 zeroE)) : Box5 W [z0, z1, z2, z3, z4] (.pointer (some ⟨W.heap.size, 0, none⟩)) (((((w6.setCell ⟨W.heap.size, 0, none⟩ (.int .i64 z0)).setCell ⟨W.heap.size, 1, none⟩ (.int .i64 z1)).setCell ⟨W.heap.size, 2, none⟩ (.int .i64 z2)).setCell ⟨W.heap.size, 3, none⟩ (.int .i64 z3)).setCell ⟨W.heap.size, 4, none⟩ (.int .i64 z4)) :=
  ⟨_, rfl, put5 hh, below5 (((Below.refl _ _).alloc (Nat.le_refl _) _).drew.trans (hb.mono (by show W.heap.size ≤ (W.alloc o).heap.size; simp))) (Nat.le_refl _)⟩
theorem box5_b {W w6 : World} {z0 z1 z2 z3 z4 : Int} (hb : Below W.drew.heap.size W.drew w6) : Box5 W [z0, z1, z2, z3, z4] (.pointer (some ⟨w6.heap.size, 0, none⟩)) (w6.alloc (.cells #[.int .i64 z0, .int .i64 z1, .int .i64 z2, .int .i64 z3, .int .i64 z4] 54)) :=
  ⟨_, rfl, Held.made (l := cs5 [z0, z1, z2, z3, z4]) rfl, ((Below.refl _ W).drew.trans hb).alloc hb.size _⟩
theorem held_ne_map {w : World} {b k : Nat} {t : TypeId} {l : List Value} {L : List (List Int)} (h : Held w b t l) (hm : MapB w k L) : b ≠ k := by
  rintro rfl
  obtain ⟨es, ck, hm, _⟩ := hm
  rw [Held, hm] at h
  cases h
theorem own_formE {B : Nat} {w : World} {v : Value} {L : List (List Int)} (h : OwnE B w v L) : ∃ a n c, v = .slice a n c := by
  rcases h.2 with ⟨h, _⟩ | ⟨g, cap, cur, h, _⟩ <;> exact ⟨_, _, _, h⟩
theorem toI_lt2 : ∀ {a b : List Nat}, a < b → toI a < toI b
  | [], [], h => absurd h (List.lt_irrefl [])
  | [], _ :: _, _ => List.nil_lt_cons _ _
  | _ :: _, [], h => absurd h (List.not_lt_nil _)
  | x :: a, y :: b, h => by
    rcases List.cons_lt_cons_iff.1 h with h1 | ⟨h1, h2⟩
    · exact List.cons_lt_cons_iff.2 (.inl (Int.ofNat_lt.2 h1))
    · exact List.cons_lt_cons_iff.2 (.inr ⟨congrArg _ h1, toI_lt2 h2⟩)
/-- What SortFunc leaves. -/
theorem sort_els {d : Nat} {l : List (List Nat)} {R : List (List Int)} (hp : ∀ x ∈ l, Perm1 d x) (hn : l.Nodup) (hR : R.Perm (elsI d l)) (hs : R.Pairwise (fun a b => ¬ b < a)) : R = elsI d (sortP l) := by
  have h1 : (elsI d (sortP l)).Pairwise (fun a b => ¬ b < a) := by
    refine List.pairwise_map.2 ((sortP_sorted hn).imp_of_mem fun {a b} ha hb hab hba => ?_)
    have ha' := hp a ((sortP_perm hn).mem_iff.1 ha)
    have hb' := hp b ((sortP_perm hn).mem_iff.1 hb)
    have := toI_lt2 ((padP_lt ha' hb').2 hab)
    exact List.lt_irrefl _ (List.lt_trans this hba)
  refine (hR.trans ((sortP_perm hn).map _).symm).eq_of_pairwise (fun a b _ _ x y => ?_) hs h1
  exact List.le_antisymm x y
theorem size_map : (Try.prog.info? 50).map (·.size) = some 1 := by kernel_rfl
end Go.Proofs.Ytdackakjcnnofaa

/- What is held while the numbers of the elements are laid into the map. -/
namespace Go.Proofs.Ytdackakjcnnofaa
open Go.RowKit

structure IxI (d : Nat) (E : List (List Nat)) (bg gE bM k cE : Nat) (w : World) (i : Nat) : Prop where
  box : Held w bg 52 [.int .i64 (d : Nat), .slice (some ⟨gE, 0, none⟩) k cE, .map (some bM), .slice none 0 0, .slice none 0 0, .slice none 0 0, .int .i64 0]
  els : ElsAt w (.slice (some ⟨gE, 0, none⟩) k cE) (elsI d E)
  map : MapE w bM (elsI d (E.take i))
  ne : bM ≠ bg ∧ gE ≠ bg ∧ gE ≠ bM ∧ gE < w.heap.size
section
variable {d bg gE bM k cE i : Nat} {E : List (List Nat)} {w w1 W : World} {x : List Nat}
theorem els_lt (h : ElsAt w (.slice (some ⟨gE, 0, none⟩) k cE) (elsI d E)) : gE < w.heap.size := by
  obtain ⟨g, cap, e, _, h2, _⟩ := h
  obtain ⟨e1, -, -⟩ := Value.slice.inj e
  have : gE = g := by simpa using e1
  rw [this]; exact h2
theorem own_gE {j : Nat} (hj : (Value.slice (some ⟨gE, 0, none⟩) k cE).ownBlock = some j) : j = gE := by cases hj; rfl
theorem IxI.start (hb : Held w bg 52 [.int .i64 (d : Nat), .slice (some ⟨gE, 0, none⟩) k cE, .map none, .slice none 0 0, .slice none 0 0, .slice none 0 0, .int .i64 0]) (he : ElsAt w (.slice (some ⟨gE, 0, none⟩) k cE) (elsI d E)) (hne : gE ≠ bg) :
    IxI d E bg gE w.heap.size k cE ((w.alloc (.map #[] 0)).setCell ⟨bg, 2, none⟩ (.map (some w.heap.size))) 0 := by
  have hl := hb.lt
  have hg := els_lt he
  have ha : Below w.heap.size w (w.alloc (.map #[] 0)) := (Below.refl _ _).alloc (Nat.le_refl _) _
  have st := Sm.put (w := w.alloc (.map #[] 0)) bg 2 (.map (some w.heap.size))
  refine ⟨by exact (hb.alloc _).put 2 _, (he.below ha).sm st (fun j hj => by rw [own_gE hj]; exact hne), (mapE_new w).sm st (by show w.heap.size ≠ bg; omega), by omega, hne, by omega, by have := st.size; simp at this ⊢; omega⟩
theorem IxI.below (h : IxI d E bg gE bM k cE w i) (hb : Below w.heap.size w w1) : IxI d E bg gE bM k cE w1 i :=
  ⟨h.box.below hb h.box.lt, h.els.below hb, h.map.below hb, h.ne.1, h.ne.2.1, h.ne.2.2.1, Nat.lt_of_lt_of_le h.ne.2.2.2 hb.size⟩
theorem IxI.next (h : IxI d E bg gE bM k cE w i) (hx : E[i]? = some x) (hbm : bg ≠ bM) (hm : MapE W bM (elsI d (E.take i) ++ [elI d x])) (hs : Sm (fun j => j ≠ bM) w W) : IxI d E bg gE bM k cE W (i + 1) :=
  ⟨h.box.sm hs hbm, h.els.sm hs (fun j hj => by rw [own_gE hj]; exact h.ne.2.2.1), by
    rw [List.take_add_one, hx]
    simpa [elsI] using hm, h.ne.1, h.ne.2.1, h.ne.2.2.1, Nat.lt_of_lt_of_le h.ne.2.2.2 hs.size⟩
theorem IxI.done (h : IxI d E bg gE bM k cE w E.length) : SrI d E w.heap.size bg (fun _ => False) w (.slice (some ⟨gE, 0, none⟩) k cE) bM (.slice none 0 0) (.slice none 0 0) (.slice none 0 0) [] [] [] 0 := by
  have hm := h.map
  rw [List.take_length] at hm
  refine ⟨h.box, h.els, hm, RowsF.nil _ _ _, World.ownsRow_nil _ _ _ _, World.ownsRow_nil _ _ _ _, fun _ h => h.elim, fun j hj => (by cases hj), ⟨h.box.lt, hm.lt, h.ne.1, fun j hj => by rw [own_gE hj]; exact ⟨h.ne.2.2.2, h.ne.2.1⟩⟩, fun _ h => h.elim⟩
theorem ix_facts (h : Grp d E) (hd : d ≤ 5) (hx : E[i]? = some x) : (∀ l ∈ elsI d (E.take i), Elt l) ∧ (elsI d (E.take i)).Nodup ∧ Elt (elI d x) ∧ elI d x ∉ elsI d (E.take i) ∧ (elsI d (E.take i)).length = i := by
  have hi := (List.getElem?_eq_some_iff.1 hx).1
  have h1 : elsI d (E.take (i + 1)) = elsI d (E.take i) ++ [elI d x] := by
    rw [List.take_add_one, hx]
    simp [elsI]
  have h2 : (elsI d (E.take (i + 1))).Nodup := by
    have : elsI d (E.take (i + 1)) = (elsI d E).take (i + 1) := by simp [elsI]
    rw [this]
    exact (elsI_nodup h).sublist (List.take_sublist _ _)
  rw [h1, List.nodup_append] at h2
  refine ⟨fun l hl => ?_, h2.1, elI_elt hd (h.perm x (List.mem_of_getElem? hx)), fun hm => ?_, ?_⟩
  · obtain ⟨y, hy, rfl⟩ := List.mem_map.1 hl
    exact elI_elt hd (h.perm y (List.mem_of_mem_take hy))
  · exact h2.2.2 _ hm _ (by simp) rfl
  · rw [elsI_length, List.length_take]; omega
end
end Go.Proofs.Ytdackakjcnnofaa
