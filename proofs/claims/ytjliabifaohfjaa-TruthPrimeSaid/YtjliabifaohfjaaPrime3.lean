/- The walk of the closure that sorts cubes. -/
import Derived.Test.YtjliabifaohfjaaPrime2
import Derived.Deep.RegionWith
import Derived.Shelf.SlSortCmp.WholeK
namespace Go.Proofs.Ytjliabifaohfjaa
open Go Go.RowKit Go.Lib Go.Sort
set_option linter.unusedVariables false

def cfP (x y : Cb) : Int := orI (cmpU x.1 y.1) (cmpU x.2 y.2)
set_option maxHeartbeats 100000000 in
theorem cmp_cube (x y : Cb) (w : World) : Calls Try.prog 35 #[.agg #[.int .u32 (W x.1), .int .u32 (W x.2)], .agg #[.int .u32 (W y.1), .int .u32 (W y.2)]] w fun e w' => e = .returned (.int .i64 (cfP x y)) ∧ ∃ q os', w' = grow (w.drewN q) os' := by
  obtain ⟨x1, x2⟩ := x
  obtain ⟨y1, y2⟩ := y
  have HC := Lib.hid (show cfP (x1, x2) (y1, y2) = orI (cmpU x1 y1) (cmpU x2 y2) from rfl)
  obtain ⟨r, hr⟩ : ∃ r, cfP (x1, x2) (y1, y2) = r := ⟨_, rfl⟩
  rw [hr] at HC ⊢
  clear hr
  have HSL := Lib.hid (show SlI ((((w.alloc (.cells #[.int .u32 (W x1), .int .u32 (W x2)] 40)).alloc (.cells #[.int .u32 (W y1), .int .u32 (W y2)] 40)).alloc (.cells #[.int .i64 (cmpU x1 y1), .int .i64 (cmpU x2 y2)] 3)).drew) (some ⟨w.heap.size + 1 + 1, 0, none⟩) 2 [cmpU x1 y1, cmpU x2 y2] from ⟨by
    have h := Sl.new ((w.alloc (.cells #[.int .u32 (W x1), .int .u32 (W x2)] 40)).alloc (.cells #[.int .u32 (W y1), .int .u32 (W y2)] 40)) #[.int .i64 (cmpU x1 y1), .int .i64 (cmpU x2 y2)] 3 1 2 rfl
    simp only [World.size_alloc] at h
    exact h.kept (Kept.refl _).drew, rfl⟩)
  have HOR := Lib.hid (fun c => or_any _ c _ _ _ HSL.out)
  go_enter Try.func35, Try.ntmps35
  go_wp2_with fail
  go_region_with (first
    | (go_at_call 37; refine (compare_any _ _ _).mono ?_; rintro e w1 ⟨rfl, rfl⟩)
    | (go_at_call 36; refine (HOR.out _).mono ?_; rintro e w1 ⟨rfl, rfl⟩))

  all_goals
    go_wp2_with fail
    go_ret
    exact ⟨by rw [HC.out]; rfl, 1, _, by rw [alloc_eq_grow, alloc_eq_grow, alloc_eq_grow, grow_grow, grow_grow]; rfl⟩
end Go.Proofs.Ytjliabifaohfjaa
