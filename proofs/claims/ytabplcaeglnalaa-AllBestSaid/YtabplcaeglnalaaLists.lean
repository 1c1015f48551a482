/-
  Small functions of the statements on lists: same, lists, s16. No statement is proved here.
-/
import Derived.Test.YtabplcaeglnalaaSlice
import Derived.Test.YtabplcaeglnalaaSpot
namespace Go.Proofs.Ytabplcaeglnalaa
open Go.RowKit
def s16I (v : Int) : Int := v % 65536 - 32768
theorem s16I_bd (v : Int) : -32768 ≤ s16I v ∧ s16I v ≤ 32767 := by unfold s16I; omega
theorem s16I_any (v : Int) (w : World) : Calls Try.prog 20 #[.int .i64 v] w fun e w' => e = .returned (.int .i64 (s16I v)) ∧ w = w' := by
  have h1 := Int.emod_nonneg v (show (65536 : Int) ≠ 0 by omega)
  have h2 := Int.emod_lt_of_pos v (show (0 : Int) < 65536 by omega)
  go_enter Try.func20, Try.ntmps20
  go_wp2_with (go_at_call 8; (with_reducible refine (spot_any _ _ _ (by omega) (by omega)).mono ?_); rintro e w1 ⟨rfl, rfl⟩)
  go_ret
  exact ⟨rfl, rfl⟩
/-- So many numbers of 16 bits. -/
def listF (n : Nat) (f : Nat → Int) (i : Nat) : Int := if i < n then s16I (f i) else 0
theorem listF_bd (n : Nat) (f : Nat → Int) (i : Nat) : -32768 ≤ listF n f i ∧ listF n f i ≤ 32767 := by
  unfold listF
  split
  · exact s16I_bd _
  · omega
def ListPost (n : Nat) (f : Nat → Int) (m : Int) (w : World) (e : Ending) (w' : World) : Prop := ∃ g, e = .returned (.slice (some ⟨g, 0, none⟩) m.toNat m.toNat) ∧ Has w w' [(g, 3, row m.toNat (listF n f))]
set_option maxHeartbeats 1600000 in
theorem lists_any (P : Option Addr) (n cap : Nat) (ad : Addr) (f : Nat → Int) (m : Int) (w : World) (hn : n ≤ 9223372036854775807) (hm0 : 0 ≤ m) (hm : m ≤ 100000) (hR : ReadsA w P n ad f) :
    Calls Try.prog 11 #[.slice P n cap, .int .i64 m] w (ListPost n f m w) := by
  have H := Has.start w
  go_enter Try.func11, Try.ntmps11
  go_wp2_with ((refine wpList_on (o := ⟨some 8, .makeSlice _ _ _, _, _, _, _⟩) rfl (fun K hK => ?_)); refine wp_make_has (t_ := 25) (e := 3) H _ _ rfl m .i64 .i64 rfl rfl ?_ ?_ ?_ ?_ ?_; (kernel_rfl); (kernel_rfl); (omega); (omega); (clear H; intro u g H; refine hK _ _ ?_; clear hK K; try simp only [Value.cells, List.cons_append, List.nil_append] at H))
  go_loopw [6] (fun c wr => ∃ k : Nat, (k : Int) ≤ m ∧ k ≤ n ∧ c = .int .i64 k ∧ Has w wr [(g, 3, row m.toNat fun i => if i < k then s16I (f i) else 0)]) (fun c _ => (m - intOf c).toNat)
  case atStart => exact ⟨0, by omega, by omega, rfl, by
    have e : (fun i : Nat => if i < 0 then s16I (f i) else 0) = fun _ => 0 := by funext i; simp
    rw [e]; exact H⟩
  clear H
  case round =>
    obtain ⟨k, hkm, hkn, rfl, H⟩ := hrel
    have R := ReadsA.has hR H
    by_cases h1 : (k : Int) < m
    · by_cases hlt : k < n
      · obtain rfl := R.ptr (by omega)
        have d1 := lt_yes h1
        have s7 : k < m.toNat := by omega
        have s8 : (k : Int) < (m.toNat : Int) := by omega
        have HE : Hid ((fun i => if i < k + 1 then s16I (f i) else 0) = fun j => if j = k then s16I (f k) else if j < k then s16I (f j) else 0) := by
          show (fun i => if i < k + 1 then s16I (f i) else 0) = _
          funext i
          by_cases e : i = k
          · subst e; simp
          · have : i < k + 1 ↔ i < k := by omega
            simp [e, this]
        go_wp2_with (first | ((refine wpList_on (o := ⟨_, .load 3 _, _, _, _, _⟩) rfl (fun K hK => ?_)); refine wp_load_numA R 3 _ rfl rfl (by kernel_rfl) hlt ?_; refine hK _ _ ?_; clear hK K) | (go_at_call 20; (with_reducible refine (s16I_any _ _).mono ?_); rintro e w1 ⟨rfl, rfl⟩) | ((refine wpList_on (o := ⟨_, .store 3 _ _, _, _, _, _⟩) rfl (fun K hK => ?_)); refine wp_store_row_ (l1 := []) H 3 _ _ rfl rfl rfl (by kernel_rfl) (by omega) ?_; clear H; intro u H; refine hK _ _ ?_; clear hK K; try simp only [Value.cells, List.cons_append, List.nil_append] at H))
        go_roundw
        case rel => exact ⟨k + 1, by omega, by omega, by go_num, by rw [HE.out]; exact H⟩
        case measure => simp [intOf]; omega
      · have d1 := lt_yes h1
        have d2 : decide (k < n) = false := by simp; omega
        have HE : Hid (row m.toNat (fun i => if i < k then s16I (f i) else 0) = row m.toNat (listF n f)) := row_congr fun i hi => by
          unfold listF
          rw [show k = n by omega]
        go_wp2
        go_ret
        exact ⟨g, rfl, by rw [← HE.out]; exact H⟩
    · have d1 := lt_no (show m ≤ (k : Int) by omega)
      have HE : Hid (row m.toNat (fun i => if i < k then s16I (f i) else 0) = row m.toNat (listF n f)) := row_congr fun i hi => by
        unfold listF
        rw [if_pos (by omega), if_pos (by omega)]
      go_wp2
      go_ret
      exact ⟨g, rfl, by rw [← HE.out]; exact H⟩
end Go.Proofs.Ytabplcaeglnalaa
