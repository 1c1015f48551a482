/-
  pack.fields walked. No statement is proved here.
-/
import Derived.Test.YthddmgnjahmceaaDoorWidth
import Derived.Test.YthddmgnjahmceaaDoorPackLaw
import Derived.Test.YthddmgnjahmceaaDoorMade
import Derived.Test.YthddmgnjahmceaaDoorSlice
import Derived.Test.YthddmgnjahmceaaDoorRegTwo
namespace Go.Proofs.YthddmgnjahmceaaDoor
open Go.RowKit
/-- A field: where it stands, how many bits it has, how much it may be. -/
def fieldRow (g j : Nat) : Array Value := #[.pointer (some ⟨g, j, none⟩), .int .i64 (bitsF j : Nat), .int .i64 (mostF j : Nat)]
def fieldC (g : Nat) (i : Nat) : Value := (fieldRow g (i / 3)).getD (i % 3) undef
theorem fieldC_at (g j r : Nat) (h : r < 3) : fieldC g (3 * j + r) = (fieldRow g j).getD r undef := by
  unfold fieldC
  rw [show (3 * j + r) / 3 = j by omega, show (3 * j + r) % 3 = r by omega]
theorem fieldRow_get (g j r : Nat) (h : r < 3) : (fieldRow g j)[r]? = some (fieldC g (3 * j + r)) := by
  rw [fieldC_at g j r h]
  have : r = 0 ∨ r = 1 ∨ r = 2 := by omega
  rcases this with rfl | rfl | rfl <;> rfl
theorem fieldRow2_get (g j r : Nat) (h : r < 6) : (fieldRow g j ++ fieldRow g (j + 1))[r]? = some (fieldC g (3 * j + r)) := by
  by_cases h3 : r < 3
  · rw [Array.getElem?_append_left (by show r < 3; exact h3)]
    exact fieldRow_get g j r h3
  · rw [Array.getElem?_append_right (by show 3 ≤ r; omega)]
    have := fieldRow_get g (j + 1) (r - 3) (by omega)
    rw [show 3 * (j + 1) + (r - 3) = 3 * j + r by omega] at this
    exact this
theorem fieldC_one (g i : Nat) : (fieldC g i).oneCell' = true := by
  unfold fieldC
  have : i % 3 = 0 ∨ i % 3 = 1 ∨ i % 3 = 2 := by omega
  rcases this with h | h | h <;> rw [h] <;> rfl
theorem Rowed.more {e : TypeId} {v : Value} {n m g : Nat} {tl : List (Nat × TypeId × Array Value)} (R : Rowed e 3 v (n + m) (glue (n * 3) (fieldC g) (fun j => fieldC g (3 * n + j))) tl) : Rowed e 3 v (n + m) (fieldC g) tl :=
  R.congr fun i hi => by
    unfold glue
    split
    · rfl
    · show fieldC g (3 * n + (i - n * 3)) = _
      rw [show 3 * n + (i - n * 3) = i by omega]
def FieldsPost (g : Nat) (w : World) (e : Ending) (w' : World) : Prop := ∃ v tl, e = .returned v ∧ Rowed 49 3 v 25 (fieldC g) tl ∧ Has w w' tl
set_option maxHeartbeats 6400000 in
set_option maxRecDepth 100000 in
theorem fields_any (g : Nat) (w : World) (hT : Widths w) : Calls Tryd.prog 14 #[.pointer (some ⟨g, 0, none⟩)] w (FieldsPost g w) := by
  have H := Has.start w
  go_enter Tryd.func14, Tryd.ntmps14
  go_wp2_with ((refine wpList_on (o := ⟨some 13, .buildSlice _ _ _, _, _, _, _⟩) rfl (fun K hK => ?_)); refine wp_made H (elem := 49) (n := 1) (cs := fieldRow g 0) (by kernel_rfl) ?_; clear H; intro u g1 H; refine hK _ _ ?_; clear hK K)
  have RO : Rowed 49 3 (.slice (some ⟨g1, 0, none⟩) 1 1) 1 (fieldC g) [(g1, 49, fieldRow g 0)] := .inr ⟨g1, 1, fieldRow g 0, rfl, rfl, Nat.le_refl _, (by unfold maxLen; omega), rfl, fun i hi => by have := fieldRow_get g 0 i (by omega); rwa [show 3 * 0 + i = i by omega] at this⟩
  go_loopw [3, 14] (fun v c wr => ∃ (k : Nat) (tl : List (Nat × TypeId × Array Value)), k ≤ 8 ∧ c = .int .i64 k ∧ Hid (Rowed 49 3 v (1 + k) (fieldC g) tl) ∧ Has w wr tl) (fun _ c _ => 8 - (intOf c).toNat)
  case atStart => exact ⟨0, _, by omega, rfl, RO, H⟩
  clear H RO
  case round =>
    obtain ⟨k, tl, hk, rfl, RO, H⟩ := hrel
    replace RO := RO.out
    by_cases hlt : k < 8
    · obtain rfl | rfl | rfl | rfl | rfl | rfl | rfl | rfl : k = 0 ∨ k = 1 ∨ k = 2 ∨ k = 3 ∨ k = 4 ∨ k = 5 ∨ k = 6 ∨ k = 7 := by omega
      · have c1 := Lib.hid (show Calls Tryd.prog 18 #[.int .i64 0] wr (fun e w' => e = .returned (.int .i64 6) ∧ wr = w') from Width_any 0 wr (hT.has H) (by omega) (by omega))
        go_wp2_with (first | (go_at_call 18; (with_reducible refine (c1.out).mono ?_); rintro e w1 ⟨rfl, rfl⟩) | ((refine wpList_on (o := ⟨some 31, .buildSlice _ _ _, _, _, _, _⟩) rfl (fun K hK => ?_)); refine wp_made H (elem := 49) (n := 1) (cs := fieldRow g 1) (by kernel_rfl) ?_; clear H; intro u gs H; refine hK _ _ ?_; clear hK K) | ((refine wpList_on (o := ⟨some 32, .call { callee := .builtin .append, args := #[_, _], argTypes := #[44, 44] }, _, _, _, _⟩) rfl (fun K hK => ?_)); refine wp_append_has (bs := [_]) (e := 49) (s := 3) (B := 24) (m := 1) (nw := fun i => fieldC g (3 * (1 + 0) + i)) _ _ 44 rfl H RO rfl rfl (by kernel_rfl) (From.block (e := 49) (B := 24) H (by kernel_rfl) List.mem_cons_self (fun i hi => fieldRow_get g _ i (by omega)) (fun i hi => fieldC_one _ _)) (by unfold maxLen; omega) (by omega) ?_; clear H RO; intro v' u tl' RO H; refine hK _ _ ?_; clear hK K))
        go_roundw
        case rel => exact ⟨1, tl', by omega, by go_num, RO.more, H.tail⟩
        case measure => simp [intOf]
      · have c1 := Lib.hid (show Calls Tryd.prog 18 #[.int .i64 1] wr (fun e w' => e = .returned (.int .i64 6) ∧ wr = w') from Width_any 1 wr (hT.has H) (by omega) (by omega))
        go_wp2_with (first | (go_at_call 18; (with_reducible refine (c1.out).mono ?_); rintro e w1 ⟨rfl, rfl⟩) | ((refine wpList_on (o := ⟨some 31, .buildSlice _ _ _, _, _, _, _⟩) rfl (fun K hK => ?_)); refine wp_made H (elem := 49) (n := 1) (cs := fieldRow g 2) (by kernel_rfl) ?_; clear H; intro u gs H; refine hK _ _ ?_; clear hK K) | ((refine wpList_on (o := ⟨some 32, .call { callee := .builtin .append, args := #[_, _], argTypes := #[44, 44] }, _, _, _, _⟩) rfl (fun K hK => ?_)); refine wp_append_has (bs := [_]) (e := 49) (s := 3) (B := 24) (m := 1) (nw := fun i => fieldC g (3 * (1 + 1) + i)) _ _ 44 rfl H RO rfl rfl (by kernel_rfl) (From.block (e := 49) (B := 24) H (by kernel_rfl) List.mem_cons_self (fun i hi => fieldRow_get g _ i (by omega)) (fun i hi => fieldC_one _ _)) (by unfold maxLen; omega) (by omega) ?_; clear H RO; intro v' u tl' RO H; refine hK _ _ ?_; clear hK K))
        go_roundw
        case rel => exact ⟨2, tl', by omega, by go_num, RO.more, H.tail⟩
        case measure => simp [intOf]
      · have c1 := Lib.hid (show Calls Tryd.prog 18 #[.int .i64 2] wr (fun e w' => e = .returned (.int .i64 5) ∧ wr = w') from Width_any 2 wr (hT.has H) (by omega) (by omega))
        go_wp2_with (first | (go_at_call 18; (with_reducible refine (c1.out).mono ?_); rintro e w1 ⟨rfl, rfl⟩) | ((refine wpList_on (o := ⟨some 31, .buildSlice _ _ _, _, _, _, _⟩) rfl (fun K hK => ?_)); refine wp_made H (elem := 49) (n := 1) (cs := fieldRow g 3) (by kernel_rfl) ?_; clear H; intro u gs H; refine hK _ _ ?_; clear hK K) | ((refine wpList_on (o := ⟨some 32, .call { callee := .builtin .append, args := #[_, _], argTypes := #[44, 44] }, _, _, _, _⟩) rfl (fun K hK => ?_)); refine wp_append_has (bs := [_]) (e := 49) (s := 3) (B := 24) (m := 1) (nw := fun i => fieldC g (3 * (1 + 2) + i)) _ _ 44 rfl H RO rfl rfl (by kernel_rfl) (From.block (e := 49) (B := 24) H (by kernel_rfl) List.mem_cons_self (fun i hi => fieldRow_get g _ i (by omega)) (fun i hi => fieldC_one _ _)) (by unfold maxLen; omega) (by omega) ?_; clear H RO; intro v' u tl' RO H; refine hK _ _ ?_; clear hK K))
        go_roundw
        case rel => exact ⟨3, tl', by omega, by go_num, RO.more, H.tail⟩
        case measure => simp [intOf]
      · have c1 := Lib.hid (show Calls Tryd.prog 18 #[.int .i64 3] wr (fun e w' => e = .returned (.int .i64 5) ∧ wr = w') from Width_any 3 wr (hT.has H) (by omega) (by omega))
        go_wp2_with (first | (go_at_call 18; (with_reducible refine (c1.out).mono ?_); rintro e w1 ⟨rfl, rfl⟩) | ((refine wpList_on (o := ⟨some 31, .buildSlice _ _ _, _, _, _, _⟩) rfl (fun K hK => ?_)); refine wp_made H (elem := 49) (n := 1) (cs := fieldRow g 4) (by kernel_rfl) ?_; clear H; intro u gs H; refine hK _ _ ?_; clear hK K) | ((refine wpList_on (o := ⟨some 32, .call { callee := .builtin .append, args := #[_, _], argTypes := #[44, 44] }, _, _, _, _⟩) rfl (fun K hK => ?_)); refine wp_append_has (bs := [_]) (e := 49) (s := 3) (B := 24) (m := 1) (nw := fun i => fieldC g (3 * (1 + 3) + i)) _ _ 44 rfl H RO rfl rfl (by kernel_rfl) (From.block (e := 49) (B := 24) H (by kernel_rfl) List.mem_cons_self (fun i hi => fieldRow_get g _ i (by omega)) (fun i hi => fieldC_one _ _)) (by unfold maxLen; omega) (by omega) ?_; clear H RO; intro v' u tl' RO H; refine hK _ _ ?_; clear hK K))
        go_roundw
        case rel => exact ⟨4, tl', by omega, by go_num, RO.more, H.tail⟩
        case measure => simp [intOf]
      · have c1 := Lib.hid (show Calls Tryd.prog 18 #[.int .i64 4] wr (fun e w' => e = .returned (.int .i64 4) ∧ wr = w') from Width_any 4 wr (hT.has H) (by omega) (by omega))
        go_wp2_with (first | (go_at_call 18; (with_reducible refine (c1.out).mono ?_); rintro e w1 ⟨rfl, rfl⟩) | ((refine wpList_on (o := ⟨some 31, .buildSlice _ _ _, _, _, _, _⟩) rfl (fun K hK => ?_)); refine wp_made H (elem := 49) (n := 1) (cs := fieldRow g 5) (by kernel_rfl) ?_; clear H; intro u gs H; refine hK _ _ ?_; clear hK K) | ((refine wpList_on (o := ⟨some 32, .call { callee := .builtin .append, args := #[_, _], argTypes := #[44, 44] }, _, _, _, _⟩) rfl (fun K hK => ?_)); refine wp_append_has (bs := [_]) (e := 49) (s := 3) (B := 24) (m := 1) (nw := fun i => fieldC g (3 * (1 + 4) + i)) _ _ 44 rfl H RO rfl rfl (by kernel_rfl) (From.block (e := 49) (B := 24) H (by kernel_rfl) List.mem_cons_self (fun i hi => fieldRow_get g _ i (by omega)) (fun i hi => fieldC_one _ _)) (by unfold maxLen; omega) (by omega) ?_; clear H RO; intro v' u tl' RO H; refine hK _ _ ?_; clear hK K))
        go_roundw
        case rel => exact ⟨5, tl', by omega, by go_num, RO.more, H.tail⟩
        case measure => simp [intOf]
      · have c1 := Lib.hid (show Calls Tryd.prog 18 #[.int .i64 5] wr (fun e w' => e = .returned (.int .i64 4) ∧ wr = w') from Width_any 5 wr (hT.has H) (by omega) (by omega))
        go_wp2_with (first | (go_at_call 18; (with_reducible refine (c1.out).mono ?_); rintro e w1 ⟨rfl, rfl⟩) | ((refine wpList_on (o := ⟨some 31, .buildSlice _ _ _, _, _, _, _⟩) rfl (fun K hK => ?_)); refine wp_made H (elem := 49) (n := 1) (cs := fieldRow g 6) (by kernel_rfl) ?_; clear H; intro u gs H; refine hK _ _ ?_; clear hK K) | ((refine wpList_on (o := ⟨some 32, .call { callee := .builtin .append, args := #[_, _], argTypes := #[44, 44] }, _, _, _, _⟩) rfl (fun K hK => ?_)); refine wp_append_has (bs := [_]) (e := 49) (s := 3) (B := 24) (m := 1) (nw := fun i => fieldC g (3 * (1 + 5) + i)) _ _ 44 rfl H RO rfl rfl (by kernel_rfl) (From.block (e := 49) (B := 24) H (by kernel_rfl) List.mem_cons_self (fun i hi => fieldRow_get g _ i (by omega)) (fun i hi => fieldC_one _ _)) (by unfold maxLen; omega) (by omega) ?_; clear H RO; intro v' u tl' RO H; refine hK _ _ ?_; clear hK K))
        go_roundw
        case rel => exact ⟨6, tl', by omega, by go_num, RO.more, H.tail⟩
        case measure => simp [intOf]
      · have c1 := Lib.hid (show Calls Tryd.prog 18 #[.int .i64 6] wr (fun e w' => e = .returned (.int .i64 3) ∧ wr = w') from Width_any 6 wr (hT.has H) (by omega) (by omega))
        go_wp2_with (first | (go_at_call 18; (with_reducible refine (c1.out).mono ?_); rintro e w1 ⟨rfl, rfl⟩) | ((refine wpList_on (o := ⟨some 31, .buildSlice _ _ _, _, _, _, _⟩) rfl (fun K hK => ?_)); refine wp_made H (elem := 49) (n := 1) (cs := fieldRow g 7) (by kernel_rfl) ?_; clear H; intro u gs H; refine hK _ _ ?_; clear hK K) | ((refine wpList_on (o := ⟨some 32, .call { callee := .builtin .append, args := #[_, _], argTypes := #[44, 44] }, _, _, _, _⟩) rfl (fun K hK => ?_)); refine wp_append_has (bs := [_]) (e := 49) (s := 3) (B := 24) (m := 1) (nw := fun i => fieldC g (3 * (1 + 6) + i)) _ _ 44 rfl H RO rfl rfl (by kernel_rfl) (From.block (e := 49) (B := 24) H (by kernel_rfl) List.mem_cons_self (fun i hi => fieldRow_get g _ i (by omega)) (fun i hi => fieldC_one _ _)) (by unfold maxLen; omega) (by omega) ?_; clear H RO; intro v' u tl' RO H; refine hK _ _ ?_; clear hK K))
        go_roundw
        case rel => exact ⟨7, tl', by omega, by go_num, RO.more, H.tail⟩
        case measure => simp [intOf]
      · have c1 := Lib.hid (show Calls Tryd.prog 18 #[.int .i64 7] wr (fun e w' => e = .returned (.int .i64 3) ∧ wr = w') from Width_any 7 wr (hT.has H) (by omega) (by omega))
        go_wp2_with (first | (go_at_call 18; (with_reducible refine (c1.out).mono ?_); rintro e w1 ⟨rfl, rfl⟩) | ((refine wpList_on (o := ⟨some 31, .buildSlice _ _ _, _, _, _, _⟩) rfl (fun K hK => ?_)); refine wp_made H (elem := 49) (n := 1) (cs := fieldRow g 8) (by kernel_rfl) ?_; clear H; intro u gs H; refine hK _ _ ?_; clear hK K) | ((refine wpList_on (o := ⟨some 32, .call { callee := .builtin .append, args := #[_, _], argTypes := #[44, 44] }, _, _, _, _⟩) rfl (fun K hK => ?_)); refine wp_append_has (bs := [_]) (e := 49) (s := 3) (B := 24) (m := 1) (nw := fun i => fieldC g (3 * (1 + 7) + i)) _ _ 44 rfl H RO rfl rfl (by kernel_rfl) (From.block (e := 49) (B := 24) H (by kernel_rfl) List.mem_cons_self (fun i hi => fieldRow_get g _ i (by omega)) (fun i hi => fieldC_one _ _)) (by unfold maxLen; omega) (by omega) ?_; clear H RO; intro v' u tl' RO H; refine hK _ _ ?_; clear hK K))
        go_roundw
        case rel => exact ⟨8, tl', by omega, by go_num, RO.more, H.tail⟩
        case measure => simp [intOf]
    · obtain rfl : k = 8 := by omega
      go_wp2
      simp only [show ((8 : Nat) : Int) = 8 from rfl]
      go_loopw [3, 34] (fun v c wr => ∃ (k : Nat) (tl : List (Nat × TypeId × Array Value)), k ≤ 2 ∧ c = .int .i64 k ∧ Hid (Rowed 49 3 v (9 + 8 * k) (fieldC g) tl) ∧ Has w wr tl) (fun _ c _ => 2 - (intOf c).toNat)
      case atStart => exact ⟨0, _, by omega, rfl, RO, H⟩
      clear H RO
      case round =>
        obtain ⟨k, tl, hk, rfl, RO, H⟩ := hrel
        replace RO := RO.out
        by_cases hlt : k < 2
        · obtain rfl | rfl : k = 0 ∨ k = 1 := by omega
          · go_wp2
            refine wp_region_text [] (by kernel_rfl) (by kernel_rfl) (by kernel_rfl) ?_; replace H := H.drew; generalize World.drew _ = u at *
            repeat (first | (refine ones_eff (o := ⟨some 51, .buildSlice _ _ _, _, _, _, _⟩) rfl rfl (fun K hK => ?_); refine wp_made H (elem := 49) (n := 2) (cs := fieldRow g 9 ++ fieldRow g 10) (by kernel_rfl) ?_; clear H; intro u gs H; refine hK _ _ ?_; clear hK K; simp only [Act.put, List.setIfInBounds_toArray, List.set_cons_zero, List.set_cons_succ]) | (refine ones_eff (o := ⟨some 52, .call { callee := .builtin .append, args := #[_, _], argTypes := #[44, 44] }, _, _, _, _⟩) rfl rfl (fun K hK => ?_); refine wp_append_has (bs := [_]) (e := 49) (s := 3) (B := 24) (m := 2) (nw := fun i => fieldC g (3 * (9) + i)) _ _ 44 rfl H RO rfl rfl (by kernel_rfl) (From.block (e := 49) (B := 24) H (by kernel_rfl) List.mem_cons_self (fun i hi => fieldRow2_get g (9) i (by omega)) (fun i hi => fieldC_one _ _)) (by unfold maxLen; omega) (by omega) ?_; clear H RO; intro v' u tl' RO H; refine hK _ _ ?_; clear hK K; simp only [Act.put, List.setIfInBounds_toArray, List.set_cons_zero, List.set_cons_succ]) | (refine ones_free (v := ?_) rfl rfl ?_ ?_; rotate_left; (intro w'; go_simp; try with_reducible rfl); simp only [Act.put, List.setIfInBounds_toArray, List.set_cons_zero, List.set_cons_succ]))
            refine ones_nil ?_
            replace RO := RO.more
            replace H := H.tail
            go_wp2
            simp only [show ((0 : Nat) : Int) = 0 from rfl, show ((1 : Nat) : Int) = 1 from rfl]
            go_loopw [3, 53] (fun v c wr => ∃ (t : Nat) (tl : List (Nat × TypeId × Array Value)), t ≤ 4 ∧ c = .int .i64 t ∧ Hid (Rowed 49 3 v (11 + t) (fieldC g) tl) ∧ Has w wr tl) (fun _ c _ => 4 - (intOf c).toNat)
            case atStart => exact ⟨0, _, by omega, rfl, RO, H⟩
            clear H RO
            case round =>
              obtain ⟨t, tl, ht, rfl, RO, H⟩ := hrel
              replace RO := RO.out
              by_cases hlt : t < 4
              · obtain rfl | rfl | rfl | rfl : t = 0 ∨ t = 1 ∨ t = 2 ∨ t = 3 := by omega
                · go_wp2_with (first | ((refine wpList_on (o := ⟨some 63, .buildSlice _ _ _, _, _, _, _⟩) rfl (fun K hK => ?_)); refine wp_made H (elem := 49) (n := 1) (cs := fieldRow g 11) (by kernel_rfl) ?_; clear H; intro u gs H; refine hK _ _ ?_; clear hK K) | ((refine wpList_on (o := ⟨some 64, .call { callee := .builtin .append, args := #[_, _], argTypes := #[44, 44] }, _, _, _, _⟩) rfl (fun K hK => ?_)); refine wp_append_has (bs := [_]) (e := 49) (s := 3) (B := 24) (m := 1) (nw := fun i => fieldC g (3 * (11 + 0) + i)) _ _ 44 rfl H RO rfl rfl (by kernel_rfl) (From.block (e := 49) (B := 24) H (by kernel_rfl) List.mem_cons_self (fun i hi => fieldRow_get g _ i (by omega)) (fun i hi => fieldC_one _ _)) (by unfold maxLen; omega) (by omega) ?_; clear H RO; intro v' u tl' RO H; refine hK _ _ ?_; clear hK K))
                  go_roundw
                  case rel => exact ⟨1, tl', by omega, by go_num, RO.more, H.tail⟩
                  case measure => simp [intOf]
                · go_wp2_with (first | ((refine wpList_on (o := ⟨some 63, .buildSlice _ _ _, _, _, _, _⟩) rfl (fun K hK => ?_)); refine wp_made H (elem := 49) (n := 1) (cs := fieldRow g 12) (by kernel_rfl) ?_; clear H; intro u gs H; refine hK _ _ ?_; clear hK K) | ((refine wpList_on (o := ⟨some 64, .call { callee := .builtin .append, args := #[_, _], argTypes := #[44, 44] }, _, _, _, _⟩) rfl (fun K hK => ?_)); refine wp_append_has (bs := [_]) (e := 49) (s := 3) (B := 24) (m := 1) (nw := fun i => fieldC g (3 * (11 + 1) + i)) _ _ 44 rfl H RO rfl rfl (by kernel_rfl) (From.block (e := 49) (B := 24) H (by kernel_rfl) List.mem_cons_self (fun i hi => fieldRow_get g _ i (by omega)) (fun i hi => fieldC_one _ _)) (by unfold maxLen; omega) (by omega) ?_; clear H RO; intro v' u tl' RO H; refine hK _ _ ?_; clear hK K))
                  go_roundw
                  case rel => exact ⟨2, tl', by omega, by go_num, RO.more, H.tail⟩
                  case measure => simp [intOf]
                · go_wp2_with (first | ((refine wpList_on (o := ⟨some 63, .buildSlice _ _ _, _, _, _, _⟩) rfl (fun K hK => ?_)); refine wp_made H (elem := 49) (n := 1) (cs := fieldRow g 13) (by kernel_rfl) ?_; clear H; intro u gs H; refine hK _ _ ?_; clear hK K) | ((refine wpList_on (o := ⟨some 64, .call { callee := .builtin .append, args := #[_, _], argTypes := #[44, 44] }, _, _, _, _⟩) rfl (fun K hK => ?_)); refine wp_append_has (bs := [_]) (e := 49) (s := 3) (B := 24) (m := 1) (nw := fun i => fieldC g (3 * (11 + 2) + i)) _ _ 44 rfl H RO rfl rfl (by kernel_rfl) (From.block (e := 49) (B := 24) H (by kernel_rfl) List.mem_cons_self (fun i hi => fieldRow_get g _ i (by omega)) (fun i hi => fieldC_one _ _)) (by unfold maxLen; omega) (by omega) ?_; clear H RO; intro v' u tl' RO H; refine hK _ _ ?_; clear hK K))
                  go_roundw
                  case rel => exact ⟨3, tl', by omega, by go_num, RO.more, H.tail⟩
                  case measure => simp [intOf]
                · go_wp2_with (first | ((refine wpList_on (o := ⟨some 63, .buildSlice _ _ _, _, _, _, _⟩) rfl (fun K hK => ?_)); refine wp_made H (elem := 49) (n := 1) (cs := fieldRow g 14) (by kernel_rfl) ?_; clear H; intro u gs H; refine hK _ _ ?_; clear hK K) | ((refine wpList_on (o := ⟨some 64, .call { callee := .builtin .append, args := #[_, _], argTypes := #[44, 44] }, _, _, _, _⟩) rfl (fun K hK => ?_)); refine wp_append_has (bs := [_]) (e := 49) (s := 3) (B := 24) (m := 1) (nw := fun i => fieldC g (3 * (11 + 3) + i)) _ _ 44 rfl H RO rfl rfl (by kernel_rfl) (From.block (e := 49) (B := 24) H (by kernel_rfl) List.mem_cons_self (fun i hi => fieldRow_get g _ i (by omega)) (fun i hi => fieldC_one _ _)) (by unfold maxLen; omega) (by omega) ?_; clear H RO; intro v' u tl' RO H; refine hK _ _ ?_; clear hK K))
                  go_roundw
                  case rel => exact ⟨4, tl', by omega, by go_num, RO.more, H.tail⟩
                  case measure => simp [intOf]
              · obtain rfl : t = 4 := by omega
                go_wp2
                simp only [show ((4 : Nat) : Int) = 4 from rfl]
                refine wp_region_text [] (by kernel_rfl) (by kernel_rfl) (by kernel_rfl) ?_; replace H := H.drew; generalize World.drew _ = u at *
                repeat (first | (refine ones_eff (o := ⟨some 75, .buildSlice _ _ _, _, _, _, _⟩) rfl rfl (fun K hK => ?_); refine wp_made H (elem := 49) (n := 2) (cs := fieldRow g 15 ++ fieldRow g 16) (by kernel_rfl) ?_; clear H; intro u gs H; refine hK _ _ ?_; clear hK K; simp only [Act.put, List.setIfInBounds_toArray, List.set_cons_zero, List.set_cons_succ]) | (refine ones_eff (o := ⟨some 76, .call { callee := .builtin .append, args := #[_, _], argTypes := #[44, 44] }, _, _, _, _⟩) rfl rfl (fun K hK => ?_); refine wp_append_has (bs := [_]) (e := 49) (s := 3) (B := 24) (m := 2) (nw := fun i => fieldC g (3 * (15) + i)) _ _ 44 rfl H RO rfl rfl (by kernel_rfl) (From.block (e := 49) (B := 24) H (by kernel_rfl) List.mem_cons_self (fun i hi => fieldRow2_get g (15) i (by omega)) (fun i hi => fieldC_one _ _)) (by unfold maxLen; omega) (by omega) ?_; clear H RO; intro v' u tl' RO H; refine hK _ _ ?_; clear hK K; simp only [Act.put, List.setIfInBounds_toArray, List.set_cons_zero, List.set_cons_succ]) | (refine ones_free (v := ?_) rfl rfl ?_ ?_; rotate_left; (intro w'; go_simp; try with_reducible rfl); simp only [Act.put, List.setIfInBounds_toArray, List.set_cons_zero, List.set_cons_succ]))
                refine ones_nil ?_
                replace RO := RO.more
                replace H := H.tail
                go_wp2
                go_roundw
                case rel => exact ⟨1, tl', by omega, by go_num, RO, H⟩
                case measure => simp [intOf]
          · go_wp2
            refine wp_region_text [] (by kernel_rfl) (by kernel_rfl) (by kernel_rfl) ?_; replace H := H.drew; generalize World.drew _ = u at *
            repeat (first | (refine ones_eff (o := ⟨some 51, .buildSlice _ _ _, _, _, _, _⟩) rfl rfl (fun K hK => ?_); refine wp_made H (elem := 49) (n := 2) (cs := fieldRow g 17 ++ fieldRow g 18) (by kernel_rfl) ?_; clear H; intro u gs H; refine hK _ _ ?_; clear hK K; simp only [Act.put, List.setIfInBounds_toArray, List.set_cons_zero, List.set_cons_succ]) | (refine ones_eff (o := ⟨some 52, .call { callee := .builtin .append, args := #[_, _], argTypes := #[44, 44] }, _, _, _, _⟩) rfl rfl (fun K hK => ?_); refine wp_append_has (bs := [_]) (e := 49) (s := 3) (B := 24) (m := 2) (nw := fun i => fieldC g (3 * (17) + i)) _ _ 44 rfl H RO rfl rfl (by kernel_rfl) (From.block (e := 49) (B := 24) H (by kernel_rfl) List.mem_cons_self (fun i hi => fieldRow2_get g (17) i (by omega)) (fun i hi => fieldC_one _ _)) (by unfold maxLen; omega) (by omega) ?_; clear H RO; intro v' u tl' RO H; refine hK _ _ ?_; clear hK K; simp only [Act.put, List.setIfInBounds_toArray, List.set_cons_zero, List.set_cons_succ]) | (refine ones_free (v := ?_) rfl rfl ?_ ?_; rotate_left; (intro w'; go_simp; try with_reducible rfl); simp only [Act.put, List.setIfInBounds_toArray, List.set_cons_zero, List.set_cons_succ]))
            refine ones_nil ?_
            replace RO := RO.more
            replace H := H.tail
            go_wp2
            simp only [show ((0 : Nat) : Int) = 0 from rfl, show ((1 : Nat) : Int) = 1 from rfl]
            go_loopw [3, 53] (fun v c wr => ∃ (t : Nat) (tl : List (Nat × TypeId × Array Value)), t ≤ 4 ∧ c = .int .i64 t ∧ Hid (Rowed 49 3 v (19 + t) (fieldC g) tl) ∧ Has w wr tl) (fun _ c _ => 4 - (intOf c).toNat)
            case atStart => exact ⟨0, _, by omega, rfl, RO, H⟩
            clear H RO
            case round =>
              obtain ⟨t, tl, ht, rfl, RO, H⟩ := hrel
              replace RO := RO.out
              by_cases hlt : t < 4
              · obtain rfl | rfl | rfl | rfl : t = 0 ∨ t = 1 ∨ t = 2 ∨ t = 3 := by omega
                · go_wp2_with (first | ((refine wpList_on (o := ⟨some 63, .buildSlice _ _ _, _, _, _, _⟩) rfl (fun K hK => ?_)); refine wp_made H (elem := 49) (n := 1) (cs := fieldRow g 19) (by kernel_rfl) ?_; clear H; intro u gs H; refine hK _ _ ?_; clear hK K) | ((refine wpList_on (o := ⟨some 64, .call { callee := .builtin .append, args := #[_, _], argTypes := #[44, 44] }, _, _, _, _⟩) rfl (fun K hK => ?_)); refine wp_append_has (bs := [_]) (e := 49) (s := 3) (B := 24) (m := 1) (nw := fun i => fieldC g (3 * (19 + 0) + i)) _ _ 44 rfl H RO rfl rfl (by kernel_rfl) (From.block (e := 49) (B := 24) H (by kernel_rfl) List.mem_cons_self (fun i hi => fieldRow_get g _ i (by omega)) (fun i hi => fieldC_one _ _)) (by unfold maxLen; omega) (by omega) ?_; clear H RO; intro v' u tl' RO H; refine hK _ _ ?_; clear hK K))
                  go_roundw
                  case rel => exact ⟨1, tl', by omega, by go_num, RO.more, H.tail⟩
                  case measure => simp [intOf]
                · go_wp2_with (first | ((refine wpList_on (o := ⟨some 63, .buildSlice _ _ _, _, _, _, _⟩) rfl (fun K hK => ?_)); refine wp_made H (elem := 49) (n := 1) (cs := fieldRow g 20) (by kernel_rfl) ?_; clear H; intro u gs H; refine hK _ _ ?_; clear hK K) | ((refine wpList_on (o := ⟨some 64, .call { callee := .builtin .append, args := #[_, _], argTypes := #[44, 44] }, _, _, _, _⟩) rfl (fun K hK => ?_)); refine wp_append_has (bs := [_]) (e := 49) (s := 3) (B := 24) (m := 1) (nw := fun i => fieldC g (3 * (19 + 1) + i)) _ _ 44 rfl H RO rfl rfl (by kernel_rfl) (From.block (e := 49) (B := 24) H (by kernel_rfl) List.mem_cons_self (fun i hi => fieldRow_get g _ i (by omega)) (fun i hi => fieldC_one _ _)) (by unfold maxLen; omega) (by omega) ?_; clear H RO; intro v' u tl' RO H; refine hK _ _ ?_; clear hK K))
                  go_roundw
                  case rel => exact ⟨2, tl', by omega, by go_num, RO.more, H.tail⟩
                  case measure => simp [intOf]
                · go_wp2_with (first | ((refine wpList_on (o := ⟨some 63, .buildSlice _ _ _, _, _, _, _⟩) rfl (fun K hK => ?_)); refine wp_made H (elem := 49) (n := 1) (cs := fieldRow g 21) (by kernel_rfl) ?_; clear H; intro u gs H; refine hK _ _ ?_; clear hK K) | ((refine wpList_on (o := ⟨some 64, .call { callee := .builtin .append, args := #[_, _], argTypes := #[44, 44] }, _, _, _, _⟩) rfl (fun K hK => ?_)); refine wp_append_has (bs := [_]) (e := 49) (s := 3) (B := 24) (m := 1) (nw := fun i => fieldC g (3 * (19 + 2) + i)) _ _ 44 rfl H RO rfl rfl (by kernel_rfl) (From.block (e := 49) (B := 24) H (by kernel_rfl) List.mem_cons_self (fun i hi => fieldRow_get g _ i (by omega)) (fun i hi => fieldC_one _ _)) (by unfold maxLen; omega) (by omega) ?_; clear H RO; intro v' u tl' RO H; refine hK _ _ ?_; clear hK K))
                  go_roundw
                  case rel => exact ⟨3, tl', by omega, by go_num, RO.more, H.tail⟩
                  case measure => simp [intOf]
                · go_wp2_with (first | ((refine wpList_on (o := ⟨some 63, .buildSlice _ _ _, _, _, _, _⟩) rfl (fun K hK => ?_)); refine wp_made H (elem := 49) (n := 1) (cs := fieldRow g 22) (by kernel_rfl) ?_; clear H; intro u gs H; refine hK _ _ ?_; clear hK K) | ((refine wpList_on (o := ⟨some 64, .call { callee := .builtin .append, args := #[_, _], argTypes := #[44, 44] }, _, _, _, _⟩) rfl (fun K hK => ?_)); refine wp_append_has (bs := [_]) (e := 49) (s := 3) (B := 24) (m := 1) (nw := fun i => fieldC g (3 * (19 + 3) + i)) _ _ 44 rfl H RO rfl rfl (by kernel_rfl) (From.block (e := 49) (B := 24) H (by kernel_rfl) List.mem_cons_self (fun i hi => fieldRow_get g _ i (by omega)) (fun i hi => fieldC_one _ _)) (by unfold maxLen; omega) (by omega) ?_; clear H RO; intro v' u tl' RO H; refine hK _ _ ?_; clear hK K))
                  go_roundw
                  case rel => exact ⟨4, tl', by omega, by go_num, RO.more, H.tail⟩
                  case measure => simp [intOf]
              · obtain rfl : t = 4 := by omega
                go_wp2
                simp only [show ((4 : Nat) : Int) = 4 from rfl]
                refine wp_region_text [] (by kernel_rfl) (by kernel_rfl) (by kernel_rfl) ?_; replace H := H.drew; generalize World.drew _ = u at *
                repeat (first | (refine ones_eff (o := ⟨some 75, .buildSlice _ _ _, _, _, _, _⟩) rfl rfl (fun K hK => ?_); refine wp_made H (elem := 49) (n := 2) (cs := fieldRow g 23 ++ fieldRow g 24) (by kernel_rfl) ?_; clear H; intro u gs H; refine hK _ _ ?_; clear hK K; simp only [Act.put, List.setIfInBounds_toArray, List.set_cons_zero, List.set_cons_succ]) | (refine ones_eff (o := ⟨some 76, .call { callee := .builtin .append, args := #[_, _], argTypes := #[44, 44] }, _, _, _, _⟩) rfl rfl (fun K hK => ?_); refine wp_append_has (bs := [_]) (e := 49) (s := 3) (B := 24) (m := 2) (nw := fun i => fieldC g (3 * (23) + i)) _ _ 44 rfl H RO rfl rfl (by kernel_rfl) (From.block (e := 49) (B := 24) H (by kernel_rfl) List.mem_cons_self (fun i hi => fieldRow2_get g (23) i (by omega)) (fun i hi => fieldC_one _ _)) (by unfold maxLen; omega) (by omega) ?_; clear H RO; intro v' u tl' RO H; refine hK _ _ ?_; clear hK K; simp only [Act.put, List.setIfInBounds_toArray, List.set_cons_zero, List.set_cons_succ]) | (refine ones_free (v := ?_) rfl rfl ?_ ?_; rotate_left; (intro w'; go_simp; try with_reducible rfl); simp only [Act.put, List.setIfInBounds_toArray, List.set_cons_zero, List.set_cons_succ]))
                refine ones_nil ?_
                replace RO := RO.more
                replace H := H.tail
                go_wp2
                go_roundw
                case rel => exact ⟨2, tl', by omega, by go_num, RO, H⟩
                case measure => simp [intOf]
        · obtain rfl : k = 2 := by omega
          go_wp2
          go_ret
          exact ⟨_, _, rfl, RO, H⟩
end Go.Proofs.YthddmgnjahmceaaDoor
