/-
  front.High walked; highs. No statement is proved here.
-/
import Derived.Test.YtcoicmbjoaonoaaFront
namespace Go.Proofs.Ytcoicmbjoaonoaa
open Go.RowKit
def hpF (h : HP) (i : Nat) : Int := if i = 0 then h.x0 else if i = 1 then h.x1 else if i = 2 then h.y0 else h.y1
def hpOf (q : Nat → Int) : HP := ⟨q 0, q 1, q 2, q 3⟩
theorem hp_row (q : Nat → Int) : row 4 q = row 4 (hpF (hpOf q)) := row_congr fun i hi => by
  have : i = 0 ∨ i = 1 ∨ i = 2 ∨ i = 3 := by omega
  rcases this with rfl | rfl | rfl | rfl <;> rfl
theorem hp_step (s : HP) (x y : Int) (hy : hpY s x = y) : row 4 (fun j => if j = 3 then hpF s 2 else if j = 2 then y else if j = 1 then hpF s 0 else if j = 0 then x else hpF s j) = row 4 (hpF (hpStep s x)) := row_congr fun i hi => by
  have : i = 0 ∨ i = 1 ∨ i = 2 ∨ i = 3 := by omega
  subst hy
  rcases this with rfl | rfl | rfl | rfl <;> rfl
def HighPost (f q : Nat → Int) (n : Nat) (w : World) (e : Ending) (w' : World) : Prop :=
  ∃ v tl, e = .returned (.tuple #[v, .agg (row 4 (hpF (hpS f (hpOf q) n))), .int .i64 0]) ∧ Rowed 3 1 v n (fun i => .int .i64 (hpOut f (hpOf q) i)) tl ∧ Has w w' tl
set_option maxHeartbeats 3200000 in
set_option maxRecDepth 100000 in
theorem High_yes (q f : Nat → Int) (P : Option Addr) (n cap b o : Nat) (w : World) (hn : n ≤ 17592186044416) (hq : ∀ i, i < 4 → In16 (q i)) (hf : ∀ i, i < n → In16 (f i)) (hR : Reads w P n b o f) :
    Calls Try.prog 12 #[.agg (row 4 q), .slice P n cap] w (HighPost f q n w) := by
  have H := Has.start w
  have HG : Hid (∀ k, k ≤ n → (hpS f (hpOf q) k).good) := fun k hk => hpS_good ⟨hq 0 (by omega), hq 1 (by omega), hq 2 (by omega), hq 3 (by omega)⟩ hf k hk
  have HF := Lib.hid hf
  have r1 : ∀ w' : World, Below w.heap.size w w' → Calls Try.prog 32 #[.slice P n cap] w' fun e w'' => e = .returned (.bool true) ∧ w' = w'' := fun w' hb => by
    have := right_any P n cap b o f w' (by omega) (hR.below hb)
    rw [rightB_iff.2 hf] at this; exact this
  have r2 : ∀ (g : Nat) (t : TypeId) (bs : List (Nat × TypeId × Array Value)) (w' : World), Has w w' bs → (g, t, row 4 q) ∈ bs → Calls Try.prog 32 #[.slice (some ⟨g, 0, none⟩) 2 2] w' fun e w'' => e = .returned (.bool true) ∧ w' = w'' := fun g t bs w' H hm => by
    have := right_any (some ⟨g, 0, none⟩) 2 2 g 0 q w' (by omega) ⟨fun _ => rfl, fun i hi => by rw [Nat.zero_add, (H.at_ hm).cell, row_get q (by omega)]⟩
    rw [rightB_iff.2 (fun i hi => hq i (by omega))] at this; exact this
  have r3 : ∀ (g : Nat) (t : TypeId) (bs : List (Nat × TypeId × Array Value)) (w' : World), Has w w' bs → (g, t, row 4 q) ∈ bs → Calls Try.prog 32 #[.slice (some ⟨g, 2, none⟩) 2 2] w' fun e w'' => e = .returned (.bool true) ∧ w' = w'' := fun g t bs w' H hm => by
    have := right_any (some ⟨g, 2, none⟩) 2 2 g 2 (fun i => q (2 + i)) w' (by omega) (Reads.part H hm (by omega))
    rw [rightB_iff.2 (fun i hi => hq (2 + i) (by omega))] at this; exact this
  have R1 := Lib.hid r1
  have R2 := Lib.hid r2
  have R3 := Lib.hid r3
  clear r1 r2 r3 hq hf
  go_enter Try.func12, Try.ntmps12
  go_wp2_with (first | ((refine wpList_on (o := ⟨_, .box _ (.tmp 0), _, _, _, _⟩) rfl (fun K hK => ?_)); refine wp_box H _ (.tmp 0) rfl (v := .agg _) rfl ?_; clear H; intro u gh H; refine hK _ _ ?_; clear hK K; try simp only [Value.cells, List.cons_append, List.nil_append] at H) | (refine wpList_on (o := ⟨some 5, .alloc 36, _, _, _, _⟩) rfl (fun K hK => ?_); refine wp_alloc H 36 rfl (z := (.agg (row 4 fun _ => 0))) (by kernel_rfl) ?_; clear H; intro u gr H; refine hK _ _ ?_; clear hK K; try simp only [Value.cells, List.cons_append, List.nil_append] at H) | (go_at_call 32; (with_reducible refine (R1.out _ H.below).mono ?_); rintro e w1 ⟨rfl, rfl⟩) | (go_at_call 32; (with_reducible refine (R2.out _ _ _ _ H (by repeat (first | exact List.mem_cons_self | apply List.mem_cons_of_mem | apply List.mem_append_right))).mono ?_); rintro e w1 ⟨rfl, rfl⟩) | (go_at_call 32; (with_reducible refine (R3.out _ _ _ _ H (by repeat (first | exact List.mem_cons_self | apply List.mem_cons_of_mem | apply List.mem_append_right))).mono ?_); rintro e w1 ⟨rfl, rfl⟩))
  clear R1 R2 R3
  rw [hp_row q] at H
  go_loopw [7, 30] (fun v c wr => ∃ (k : Nat) (tl : List (Nat × TypeId × Array Value)), k ≤ n ∧ c = .int .i64 k ∧ Hid (Rowed 3 1 v k (fun i => .int .i64 (hpOut f (hpOf q) i)) tl) ∧ Has w wr ((gr, 36, row 4 fun _ => 0) :: (gh, 36, row 4 (hpF (hpS f (hpOf q) k))) :: tl)) (fun _ c _ => n - (intOf c).toNat)
  case atStart => exact ⟨0, [], by omega, rfl, Rowed.nil _ _ _, H⟩
  clear H
  case round =>
    obtain ⟨k, tl, hk, rfl, RO, H⟩ := hrel
    replace RO := RO.out
    by_cases hlt : k < n
    · obtain rfl := hR.ptr (by omega)
      have R := Reads.has hR H
      obtain ⟨⟨b1, b2⟩, ⟨b3, b4⟩, ⟨b5, b6⟩, b7, b8⟩ := HG.out k hk
      obtain ⟨b9, b10⟩ := HF.out k hlt
      have HO : Hid (hpOut f (hpOf q) k = hpY (hpS f (hpOf q) k) (f k)) := rfl
      have HS : Hid (hpS f (hpOf q) (k + 1) = hpStep (hpS f (hpOf q) k) (f k)) := rfl
      generalize hpS f (hpOf q) k = s at *
      have c0 : -32768 ≤ hpF s 0 ∧ hpF s 0 ≤ 32767 := ⟨b1, b2⟩
      have c1 : -32768 ≤ hpF s 1 ∧ hpF s 1 ≤ 32767 := ⟨b3, b4⟩
      have c2 : -32768 ≤ hpF s 2 ∧ hpF s 2 ≤ 32767 := ⟨b5, b6⟩
      have c3 : -32768 ≤ hpF s 3 ∧ hpF s 3 ≤ 32767 := ⟨b7, b8⟩
      clear b1 b2 b3 b4 b5 b6 b7 b8
      obtain ⟨b1, b2⟩ := c0
      obtain ⟨b3, b4⟩ := c1
      obtain ⟨b5, b6⟩ := c2
      obtain ⟨b7, b8⟩ := c3
      have HY : Hid (hpY s (f k) = sat16 ((3798 * f k - 7596 * hpF s 0 + 3798 * hpF s 1 + 7807 * hpF s 2 - 3733 * hpF s 3 + 2048) / 4096)) := rfl
      generalize hyy : sat16 ((3798 * f k - 7596 * hpF s 0 + 3798 * hpF s 1 + 7807 * hpF s 2 - 3733 * hpF s 3 + 2048) / 4096) = y at HY
      have c4 := fun w : World => frontSat_any ((3798 * f k - 7596 * hpF s 0 + 3798 * hpF s 1 + 7807 * hpF s 2 - 3733 * hpF s 3 + 2048) / 4096) w
      rw [hyy] at c4
      have C4 := Lib.hid c4
      clear c4 hyy
      go_wp2_with (first | ((refine wpList_on (o := ⟨_, .load 3 _, _, _, _, _⟩) rfl (fun K hK => ?_)); refine wp_load_num R 3 _ rfl rfl (by kernel_rfl) hlt ?_; refine hK _ _ ?_; clear hK K) | ((refine wpList_on (o := ⟨_, .load 3 _, _, _, _, _⟩) rfl (fun K hK => ?_)); refine wp_load_one H 3 _ rfl rfl (by repeat (first | exact List.mem_cons_self | apply List.mem_cons_of_mem | apply List.mem_append_right)) (by kernel_rfl) (row_get _ (by omega)) ?_; refine hK _ _ ?_; clear hK K) | (go_at_call 33; (with_reducible refine (C4.out _).mono ?_); rintro e w1 ⟨rfl, rfl⟩) | ((refine wpList_on (o := ⟨_, .store 3 _ _, _, _, _, _⟩) rfl (fun K hK => ?_)); refine wp_store_row_ (l1 := [_]) H 3 _ _ rfl rfl rfl (by kernel_rfl) (by omega) ?_; clear H; intro u H; refine hK _ _ ?_; clear hK K; try simp only [Value.cells, List.cons_append, List.nil_append] at H) | ((refine wpList_on (o := ⟨some 78, .buildSlice _ _ _, _, _, _, _⟩) rfl (fun K hK => ?_)); refine wp_made H (elem := 3) (n := 1) (cs := #[.int .i64 y]) (by kernel_rfl) ?_; clear H; intro u gs H; refine hK _ _ ?_; clear hK K) | ((refine wpList_on (o := ⟨some 79, .call _, _, _, _, _⟩) rfl (fun K hK => ?_)); refine wp_append_has (bs := [_, _, _]) (e := 3) (s := 1) (B := 8) (m := 1) (nw := fun _ => .int .i64 y) _ _ 24 rfl H RO rfl rfl ?_ ?_ ?_ ?_ ?_; (kernel_rfl); (refine From.block (e := 3) (B := 8) H ?_ (by repeat (first | exact List.mem_cons_self | apply List.mem_cons_of_mem | apply List.mem_append_right)) ?_ ?_; (kernel_rfl); (intro j hj; have e0 : j = 0 := (by omega); subst e0; rfl); (intro j hj; rfl)); (unfold maxLen; omega); (omega); (clear H RO; intro v' u tl' RO H; refine hK _ _ ?_; clear hK K; try simp only [Value.cells, List.cons_append, List.nil_append] at H)))
      go_roundw
      case rel =>
        refine ⟨k + 1, tl', by omega, by go_num, RO.snoc (HO.out.trans HY.out), ?_⟩
        rw [HS.out, ← hp_step s (f k) y HY.out]
        exact H.tail
      case measure => simp [intOf]; omega
    · obtain rfl : k = n := by omega
      go_wp2
      refine wp_region_text [] (by kernel_rfl) (by kernel_rfl) (by kernel_rfl) ?_; replace H := H.drew; generalize World.drew _ = u at *
      repeat (first | (refine ones_load_all (o := ⟨_, .load 36 _, _, _, _, _⟩) H 36 _ rfl rfl rfl rfl (by repeat (first | exact List.mem_cons_self | apply List.mem_cons_of_mem | apply List.mem_append_right)) (by kernel_rfl) ?_; simp only [Act.put, List.setIfInBounds_toArray, List.set_cons_zero, List.set_cons_succ]) | (refine ones_eff (o := ⟨_, .store 36 _ _, _, _, _, _⟩) rfl rfl (fun K hK => ?_); refine wp_store_all (l1 := []) H 36 _ _ rfl rfl rfl (by kernel_rfl) (by simp [row_size]) (row_one _ _) ?_; clear H; intro u H; refine hK _ _ ?_; clear hK K; simp only [Act.put, List.setIfInBounds_toArray, List.set_cons_zero, List.set_cons_succ]; try simp only [Value.cells, List.cons_append, List.nil_append] at H) | (refine ones_free (v := ?_) rfl rfl ?_ ?_; rotate_left; (intro w'; go_simp; try with_reducible rfl); simp only [Act.put, List.setIfInBounds_toArray, List.set_cons_zero, List.set_cons_succ]))
      refine ones_nil ?_
      go_wp2
      refine bodyPost_ret (results_tct rfl _ H rfl (by repeat (first | exact List.mem_cons_self | apply List.mem_cons_of_mem | apply List.mem_append_right)) (by kernel_rfl)) rfl ⟨_, tl, rfl, RO, H.tail.tail⟩
end Go.Proofs.Ytcoicmbjoaonoaa
