/-
  quant.Width walked. No statement is proved here.
-/
import Derived.Test.YthddmgnjahmceaaDoorTable
import Derived.Test.YthddmgnjahmceaaDoorQuantLaw
import Derived.Test.YthddmgnjahmceaaDoorSpot
namespace Go.Proofs.YthddmgnjahmceaaDoor
open Go.RowKit
def widF (i : Nat) : Int := widthZ.getD i 0
/-- The table of widths lies in memory. -/
abbrev Widths (w : World) : Prop := Table 0 8 widF w
def wid (i : Int) : Int := widF i.toNat
def many (i : Int) : Int := if wid i = 3 then 8 else if wid i = 4 then 16 else if wid i = 5 then 32 else 64
theorem wide_at {i : Int} (h0 : 0 ≤ i) (h : i ≤ 7) : Wide (wid i) (many i) := by
  have : i = 0 ∨ i = 1 ∨ i = 2 ∨ i = 3 ∨ i = 4 ∨ i = 5 ∨ i = 6 ∨ i = 7 := by omega
  rcases this with rfl | rfl | rfl | rfl | rfl | rfl | rfl | rfl <;> simp [Wide, wid, many, widF, widthZ]
theorem Width_any (i : Int) (w : World) (hT : Widths w) (h0 : 0 ≤ i) (h : i ≤ 7) :
    Calls Tryd.prog 18 #[.int .i64 i] w fun e w' => e = .returned (.int .i64 (wid i)) ∧ w = w' := by
  have d1 := lt_no h0
  have d2 := le_no (show i < 8 by omega)
  have b0 : i < 8 := by omega
  go_enter Tryd.func18, Tryd.ntmps18
  go_wp2_with ((refine wpList_on (o := ⟨_, .load 3 _, _, _, _, _⟩) rfl (fun K hK => ?_)); refine wp_load_entry hT 3 _ rfl (i := i.toNat) rfl (by kernel_rfl) (by omega) ?_; refine hK _ _ ?_; clear hK K)
  go_ret
  exact ⟨rfl, rfl⟩
theorem Width_8 (w : World) :
    Calls Tryd.prog 18 #[.int .i64 8] w fun e w' => e = .returned (.int .i64 0) ∧ w = w' := by
  go_enter Tryd.func18, Tryd.ntmps18
  go_wp2
  go_ret
  exact ⟨rfl, rfl⟩
theorem wid_7 : wid 7 = 3 := rfl
theorem Width_7 (w : World) (hT : Widths w) :
    Calls Tryd.prog 18 #[.int .i64 7] w fun e w' => e = .returned (.int .i64 3) ∧ w = w' := by
  have h := Width_any 7 w hT (by omega) (by omega)
  rw [wid_7] at h; exact h
end Go.Proofs.YthddmgnjahmceaaDoor
