/-
  Several texts of this claim, one behind the other: ChoosePick, Rings, Score, Heard, BestSt. No statement is proved here.
-/
import Derived.Test.YtcoicmbjoaonoaaDoorZav
import Derived.Test.YtcoicmbjoaonoaaDoorZai
import Derived.Test.YtcoicmbjoaonoaaDoorZaq
/-
  pitch.Pick walked, with the folder of choose. No statement is proved here.
-/
namespace Go.Proofs.YtcoicmbjoaonoaaDoor
set_option linter.unusedVariables false
set_option linter.unusedSimpArgs false
open Go.RowKit
set_option maxRecDepth 100000
theorem cell_of {w u : World} {bs : List (Nat × TypeId × Array Value)} {g : Nat} {ty : TypeId} {v : Value} (H : Has w u bs) (hm : (g, ty, #[v]) ∈ bs) : u.cell? ⟨g, 0, none⟩ = some v := by
  rw [(H.at_ hm).cell]; rfl
theorem results_four {fn : Func} {t u v x : Tmp} (h : fn.results = #[.tmp t, .tmp u, .tmp v, .tmp x]) (tmps : Array Value) {P : Program} (w : World) :
    (results fn tmps).run P w = .ok (.tuple #[tmps.getD t undef, tmps.getD u undef, tmps.getD v undef, tmps.getD x undef]) w := by
  simp [results, h]
abbrev fdF (h r : Nat → Int) (j : Nat) : Nat → Int := foldOut r (pastF h j)
def pkC (h t r : Nat → Int) (j : Nat) : Int := dotF t (fdF h r j) 40
def pkE (h r : Nat → Int) (j : Nat) : Int := dotF (fdF h r j) (fdF h r j) 40
def PickPost (h t r : Nat → Int) (w : World) (e : Ending) (w' : World) : Prop := ∃ (best : Nat) (bc be : Int), e = .returned (.tuple #[.int .i64 best, .int .i64 bc, .int .i64 be, .int .i64 0]) ∧ BestOf (pkC h t r) (pkE h r) 80 bc be best ∧ bc ≤ 85899345920 ∧ be ≤ 85899345920 ∧ Below w.heap.size w w'
theorem fd_in (h r : Nat → Int) (j : Nat) : ∀ i, In16 (fdF h r j i) := fun i => foldOut_bd _ _ i
set_option maxHeartbeats 12800000 in
set_option maxRecDepth 100000 in
theorem Pick_any (h t r : Nat → Int) (gb : Nat) {rv v : Value} {w : World} (hh : ∀ i, In16 (h i)) (hr : ∀ i, i < 40 → In16 (r i)) (ht : ∀ i, i < 40 → In16 (t i)) (hc : w.cell? ⟨gb, 0, none⟩ = some rv) (LR : Lies w rv 40 r) (LT : Lies w v 40 t) :
    Calls Tryd.prog 70 #[.agg (row 80 h), .func (.func 68) #[] #[.pointer (some ⟨gb, 0, none⟩)], v] w (PickPost h t r w) := by
  have H := Has.start w
  have c1 := fun (u : World) (hb : Below w.heap.size w u) => pitchRight_l (w := u) (n := 40) (by omega) ht (LT.below hb)
  have c2 := fun (u : World) (g : Nat) (ty : TypeId) (bs : List (Nat × TypeId × Array Value)) (H : Has w u bs) (hm : (g, ty, row 80 h) ∈ bs) => pitchRight_l (w := u) (v := .slice (some ⟨g, 0, none⟩) 80 80) (n := 80) (by omega) (fun i _ => hh i) (H.lies hm (Nat.le_refl _))
  have c3 := fun (j : Nat) (v' : Value) (u : World) (L : Lies u v' 40 (fdF h r j)) => pitchRight_l (w := u) (n := 40) (by omega) (fun i _ => fd_in h r j i) L
  have c4 := fun (j : Nat) (v' : Value) (u : World) (hb : Below w.heap.size w u) (L : Lies u v' 40 (fdF h r j)) => pitchDot_l (w := u) (n := 40) (by omega) ht (fun i _ => fd_in h r j i) (LT.below hb) L
  have c5 := fun (j : Nat) (v' : Value) (u : World) (L : Lies u v' 40 (fdF h r j)) => pitchDot_l (w := u) (n := 40) (by omega) (fun i _ => fd_in h r j i) (fun i _ => fd_in h r j i) L L
  have c6 := fun (j : Nat) (v' : Value) (u : World) (bs : List (Nat × TypeId × Array Value)) (H : Has w u bs) (L : Lies u v' 40 (pastF h j)) => chooser_any r (pastF h j) gb (v := v') (u := u) hr (fun i _ => hh _) (H.old_cell hc) (LR.has H) L
  have HP : Hid (∀ j, 0 < pkC h t r j → 0 < pkE h r j) := fun j hj => dot_pos hj
  have HB1 : Hid (∀ j, pkC h t r j ≤ 85899345920) := fun j => by
    have := (dot_bd (a := t) (b := fdF h r j) (n := 40) ht (fun i _ => fd_in h r j i)).2
    unfold pkC; omega
  have HB2 : Hid (∀ j, pkE h r j ≤ 85899345920) := fun j => by
    have := (dot_bd (a := fdF h r j) (b := fdF h r j) (n := 40) (fun i _ => fd_in h r j i) (fun i _ => fd_in h r j i)).2
    unfold pkE; omega
  have C1 := Lib.hid c1
  have C2 := Lib.hid c2
  have C3 := Lib.hid c3
  have C4 := Lib.hid c4
  have C5 := Lib.hid c5
  have C6 := Lib.hid c6
  clear c1 c2 c3 c4 c5 c6 hr ht hc LR hh
  obtain ⟨PT, capT, gT, oT, rfl, RT⟩ := LT
  have heq : ∀ u : World, (binOp .eql 52 (.func (.func 68) #[] #[.pointer (some ⟨gb, 0, none⟩)]) .nilFunc).run Tryd.prog u = .ok (.bool false) u := fun u => by kernel_rfl
  go_enter Tryd.func70, Tryd.ntmps70
  go_wp2_with (first | ((refine wpList_on (o := ⟨_, .box _ (.tmp 0), _, _, _, _⟩) rfl (fun K hK => ?_)); (try simp only [Act.put, List.setIfInBounds_toArray, List.set_cons_zero, List.set_cons_succ]); refine wp_box H _ (.tmp 0) rfl (v := .agg _) rfl ?_; clear H; intro u gh H; refine hK _ _ ?_; clear hK K; try simp only [Value.cells, List.cons_append, List.nil_append] at H) | (go_at_call 93; (with_reducible refine (C1.out _ H.below).mono ?_); rintro e w1 ⟨rfl, rfl⟩) | (go_at_call 93; (with_reducible refine (C2.out _ _ _ _ H (by repeat (first | exact List.mem_cons_self | apply List.mem_cons_of_mem | apply List.mem_append_right))).mono ?_); rintro e w1 ⟨rfl, rfl⟩))
  clear C1 C2 heq
  go_loopw [10, 11, 12, 13] (fun x y z v wr => ∃ (k best : Nat) (bc be : Int), 20 ≤ k ∧ k ≤ 80 ∧ v = .int .i64 k ∧ x = .int .i64 best ∧ y = .int .i64 bc ∧ z = .int .i64 be ∧ Hid (BestOf (pkC h t r) (pkE h r) k bc be best) ∧ Hid (bc ≤ 85899345920 ∧ be ≤ 85899345920) ∧ Has w wr [(gh, 27, row 80 h)]) (fun _ _ _ v _ => 80 - (intOf v).toNat)
  case atStart => exact ⟨20, 20, 0, 0, by omega, by omega, rfl, rfl, rfl, rfl, best_none _ _, ⟨by omega, by omega⟩, H⟩
  clear H
  case round =>
    obtain ⟨k, best, bc, be, hk0, hk, rfl, rfl, rfl, rfl, HI, HW, H⟩ := hrel
    by_cases hlt : k < 80
    · have q1 : (k : Int) ≤ 79 := by omega
      have b1 := HB1.out k
      have b2 := HB2.out k
      have kb := fun u : World => Better_any (pkC h t r k) (pkE h r k) bc be u (by omega) (by omega) (by have := HW.out.1; omega) (by have := HW.out.2; omega)
      have i1 := fun h => best_skip HI.out h
      have i2 := fun h1 h2 => best_keep HI.out h1 h2
      have i3 := fun h1 h2 => best_take HI.out hk0 HP.out h1 h2
      have hpos := HP.out k
      have I1 := Lib.hid i1
      have I2 := Lib.hid i2
      have I3 := Lib.hid i3
      have k4 := C4.out k
      have k5 := C5.out k
      have e4 : dotF t (fdF h r k) 40 = pkC h t r k := rfl
      have e5 : dotF (fdF h r k) (fdF h r k) 40 = pkE h r k := rfl
      rw [e4] at k4
      rw [e5] at k5
      have D4 := Lib.hid k4
      have D5 := Lib.hid k5
      have HWn : Hid (pkC h t r k ≤ 85899345920 ∧ pkE h r k ≤ 85899345920) := ⟨b1, b2⟩
      clear k4 k5 i1 i2 i3 b1 b2 e4 e5
      generalize hbb : betterB (pkC h t r k) (pkE h r k) bc be = tb at *
      clear hbb
      have CB := Lib.hid kb
      clear kb
      generalize pkC h t r k = C at *
      generalize pkE h r k = E at *
      by_cases hcc : C ≤ 0
      · have HN := Lib.hid (I1.out hcc)
        have d1 := le_yes hcc
        clear I1 I2 I3 hcc hpos
        go_wp2_with (first | ((refine wpList_on (o := ⟨_, .load 27 _, _, _, _, _⟩) rfl (fun K hK => ?_)); (try simp only [Act.put, List.setIfInBounds_toArray, List.set_cons_zero, List.set_cons_succ]); refine wp_load_all H 27 _ rfl rfl (by repeat (first | exact List.mem_cons_self | apply List.mem_cons_of_mem | apply List.mem_append_right)) (by kernel_rfl) ?_; refine hK _ _ ?_; clear hK K) | (go_at_call 73; (with_reducible refine (Past_any h k _ hk0 (by omega)).mono ?_); rintro e w1 ⟨gp, rfl, hb⟩; replace H := H.joinR hb; clear hb; (try simp only [List.cons_append, List.nil_append] at H)) | (go_at_call 68; (with_reducible refine (C6.out k _ _ _ H (H.lies (by repeat (first | exact List.mem_cons_self | apply List.mem_cons_of_mem | apply List.mem_append_right)) (Nat.le_refl _))).mono ?_); rintro e w1 ⟨vf, tl, rfl, RO, hb⟩; replace H := H.joinR hb; clear hb; (try simp only [List.cons_append, List.nil_append] at H); obtain ⟨gv, capv, csv, rfl, rfl, hcap, hsz, hcs⟩ := RO.some_ (by omega); have LF : Lies _ (.slice (some ⟨gv, 0, none⟩) 40 capv) 40 (fdF h r k) := ⟨_, capv, gv, 0, rfl, Reads.ofCells H (by repeat (first | exact List.mem_cons_self | apply List.mem_cons_of_mem | apply List.mem_append_right)) (fun i hi => hcs i (by omega))⟩; have HLF := Lib.hid LF; clear LF hcs RO) | (go_at_call 93; (with_reducible refine (C3.out k _ _ HLF.out).mono ?_); rintro e w1 ⟨rfl, rfl⟩) | (go_at_call 94; (with_reducible refine (D4.out _ _ H.below HLF.out).mono ?_); rintro e w1 ⟨rfl, rfl⟩) | (go_at_call 94; (with_reducible refine (D5.out _ _ HLF.out).mono ?_); rintro e w1 ⟨rfl, rfl⟩))
        go_roundw
        case rel => exact ⟨k + 1, best, bc, be, by omega, by omega, by go_num, rfl, rfl, rfl, HN, HW, H.sub (List.Sublist.cons_cons _ (List.nil_sublist _))⟩
        case measure => simp [intOf]; omega
      · have hc' : 0 < C := by omega
        have d1 := le_no hc'
        have d0 := le_no (hpos hc')
        by_cases hz : be = 0
        · have HN := Lib.hid (I3.out hc' (.inl hz))
          have d2 : (be == 0) = true := by simp [hz]
          clear I1 I2 I3 hcc hc' hz hpos
          go_wp2_with (first | ((refine wpList_on (o := ⟨_, .load 27 _, _, _, _, _⟩) rfl (fun K hK => ?_)); (try simp only [Act.put, List.setIfInBounds_toArray, List.set_cons_zero, List.set_cons_succ]); refine wp_load_all H 27 _ rfl rfl (by repeat (first | exact List.mem_cons_self | apply List.mem_cons_of_mem | apply List.mem_append_right)) (by kernel_rfl) ?_; refine hK _ _ ?_; clear hK K) | (go_at_call 73; (with_reducible refine (Past_any h k _ hk0 (by omega)).mono ?_); rintro e w1 ⟨gp, rfl, hb⟩; replace H := H.joinR hb; clear hb; (try simp only [List.cons_append, List.nil_append] at H)) | (go_at_call 68; (with_reducible refine (C6.out k _ _ _ H (H.lies (by repeat (first | exact List.mem_cons_self | apply List.mem_cons_of_mem | apply List.mem_append_right)) (Nat.le_refl _))).mono ?_); rintro e w1 ⟨vf, tl, rfl, RO, hb⟩; replace H := H.joinR hb; clear hb; (try simp only [List.cons_append, List.nil_append] at H); obtain ⟨gv, capv, csv, rfl, rfl, hcap, hsz, hcs⟩ := RO.some_ (by omega); have LF : Lies _ (.slice (some ⟨gv, 0, none⟩) 40 capv) 40 (fdF h r k) := ⟨_, capv, gv, 0, rfl, Reads.ofCells H (by repeat (first | exact List.mem_cons_self | apply List.mem_cons_of_mem | apply List.mem_append_right)) (fun i hi => hcs i (by omega))⟩; have HLF := Lib.hid LF; clear LF hcs RO) | (go_at_call 93; (with_reducible refine (C3.out k _ _ HLF.out).mono ?_); rintro e w1 ⟨rfl, rfl⟩) | (go_at_call 94; (with_reducible refine (D4.out _ _ H.below HLF.out).mono ?_); rintro e w1 ⟨rfl, rfl⟩) | (go_at_call 94; (with_reducible refine (D5.out _ _ HLF.out).mono ?_); rintro e w1 ⟨rfl, rfl⟩))
          go_roundw
          case rel => exact ⟨k + 1, k, C, E, by omega, by omega, by go_num, rfl, rfl, rfl, HN, HWn, H.sub (List.Sublist.cons_cons _ (List.nil_sublist _))⟩
          case measure => simp [intOf]; omega
        · have d2 : (be == 0) = false := by simp [hz]
          cases tb
          · have HN := Lib.hid (I2.out hz rfl)
            clear I1 I2 I3 hcc hc' hz hpos
            go_wp2_with (first | ((refine wpList_on (o := ⟨_, .load 27 _, _, _, _, _⟩) rfl (fun K hK => ?_)); (try simp only [Act.put, List.setIfInBounds_toArray, List.set_cons_zero, List.set_cons_succ]); refine wp_load_all H 27 _ rfl rfl (by repeat (first | exact List.mem_cons_self | apply List.mem_cons_of_mem | apply List.mem_append_right)) (by kernel_rfl) ?_; refine hK _ _ ?_; clear hK K) | (go_at_call 73; (with_reducible refine (Past_any h k _ hk0 (by omega)).mono ?_); rintro e w1 ⟨gp, rfl, hb⟩; replace H := H.joinR hb; clear hb; (try simp only [List.cons_append, List.nil_append] at H)) | (go_at_call 68; (with_reducible refine (C6.out k _ _ _ H (H.lies (by repeat (first | exact List.mem_cons_self | apply List.mem_cons_of_mem | apply List.mem_append_right)) (Nat.le_refl _))).mono ?_); rintro e w1 ⟨vf, tl, rfl, RO, hb⟩; replace H := H.joinR hb; clear hb; (try simp only [List.cons_append, List.nil_append] at H); obtain ⟨gv, capv, csv, rfl, rfl, hcap, hsz, hcs⟩ := RO.some_ (by omega); have LF : Lies _ (.slice (some ⟨gv, 0, none⟩) 40 capv) 40 (fdF h r k) := ⟨_, capv, gv, 0, rfl, Reads.ofCells H (by repeat (first | exact List.mem_cons_self | apply List.mem_cons_of_mem | apply List.mem_append_right)) (fun i hi => hcs i (by omega))⟩; have HLF := Lib.hid LF; clear LF hcs RO) | (go_at_call 93; (with_reducible refine (C3.out k _ _ HLF.out).mono ?_); rintro e w1 ⟨rfl, rfl⟩) | (go_at_call 94; (with_reducible refine (D4.out _ _ H.below HLF.out).mono ?_); rintro e w1 ⟨rfl, rfl⟩) | (go_at_call 94; (with_reducible refine (D5.out _ _ HLF.out).mono ?_); rintro e w1 ⟨rfl, rfl⟩) | (go_at_call 95; (with_reducible refine (CB.out _).mono ?_); rintro e w1 ⟨rfl, hb⟩; replace H := H.callee hb; clear hb))
            go_roundw
            case rel => exact ⟨k + 1, best, bc, be, by omega, by omega, by go_num, rfl, rfl, rfl, HN, HW, H.sub (List.Sublist.cons_cons _ (List.nil_sublist _))⟩
            case measure => simp [intOf]; omega
          · have HN := Lib.hid (I3.out hc' (.inr rfl))
            clear I1 I2 I3 hcc hc' hz hpos
            go_wp2_with (first | ((refine wpList_on (o := ⟨_, .load 27 _, _, _, _, _⟩) rfl (fun K hK => ?_)); (try simp only [Act.put, List.setIfInBounds_toArray, List.set_cons_zero, List.set_cons_succ]); refine wp_load_all H 27 _ rfl rfl (by repeat (first | exact List.mem_cons_self | apply List.mem_cons_of_mem | apply List.mem_append_right)) (by kernel_rfl) ?_; refine hK _ _ ?_; clear hK K) | (go_at_call 73; (with_reducible refine (Past_any h k _ hk0 (by omega)).mono ?_); rintro e w1 ⟨gp, rfl, hb⟩; replace H := H.joinR hb; clear hb; (try simp only [List.cons_append, List.nil_append] at H)) | (go_at_call 68; (with_reducible refine (C6.out k _ _ _ H (H.lies (by repeat (first | exact List.mem_cons_self | apply List.mem_cons_of_mem | apply List.mem_append_right)) (Nat.le_refl _))).mono ?_); rintro e w1 ⟨vf, tl, rfl, RO, hb⟩; replace H := H.joinR hb; clear hb; (try simp only [List.cons_append, List.nil_append] at H); obtain ⟨gv, capv, csv, rfl, rfl, hcap, hsz, hcs⟩ := RO.some_ (by omega); have LF : Lies _ (.slice (some ⟨gv, 0, none⟩) 40 capv) 40 (fdF h r k) := ⟨_, capv, gv, 0, rfl, Reads.ofCells H (by repeat (first | exact List.mem_cons_self | apply List.mem_cons_of_mem | apply List.mem_append_right)) (fun i hi => hcs i (by omega))⟩; have HLF := Lib.hid LF; clear LF hcs RO) | (go_at_call 93; (with_reducible refine (C3.out k _ _ HLF.out).mono ?_); rintro e w1 ⟨rfl, rfl⟩) | (go_at_call 94; (with_reducible refine (D4.out _ _ H.below HLF.out).mono ?_); rintro e w1 ⟨rfl, rfl⟩) | (go_at_call 94; (with_reducible refine (D5.out _ _ HLF.out).mono ?_); rintro e w1 ⟨rfl, rfl⟩) | (go_at_call 95; (with_reducible refine (CB.out _).mono ?_); rintro e w1 ⟨rfl, hb⟩; replace H := H.callee hb; clear hb))
            go_roundw
            case rel => exact ⟨k + 1, k, C, E, by omega, by omega, by go_num, rfl, rfl, rfl, HN, HWn, H.sub (List.Sublist.cons_cons _ (List.nil_sublist _))⟩
            case measure => simp [intOf]; omega
    · obtain rfl : k = 80 := by omega
      go_wp2
      refine bodyPost_ret (results_four rfl _ _) rfl ⟨best, bc, be, rfl, HI.out, HW.out.1, HW.out.2, H.below⟩
end Go.Proofs.YtcoicmbjoaonoaaDoor
/-
  rings, index walked. No statement is proved here.
-/
namespace Go.Proofs.YtcoicmbjoaonoaaDoor
set_option linter.unusedVariables false
set_option linter.unusedSimpArgs false
open Go.RowKit
set_option maxRecDepth 100000
def ringX (i : Nat) : Int := if i = 0 then 9 else 0
theorem ring_X : (#[.int .i64 9, .int .i64 0, .int .i64 0, .int .i64 0] : Array Value) = row 4 ringX := rfl
theorem ring_36 : buildS ringX 1 7 4 36 = 7 := by decide
theorem ring_1 : buildS ringX 1 7 4 1 = -7 := by decide
theorem Build_ex (w : World) : Calls Tryd.prog 77 #[.agg #[.int .i64 9, .int .i64 0, .int .i64 0, .int .i64 0], .int .i64 1, .int .i64 7] w (BuildPost ringX 1 7 w) := by
  rw [ring_X]
  exact Build_any ringX 1 7 w (fun i hi => by unfold ringX; split <;> omega) (by omega) (by omega) (by omega) (by omega)
end Go.Proofs.YtcoicmbjoaonoaaDoor
/-
  pulses: energies, sign, score, Score walked. No statement is proved here.
-/
namespace Go.Proofs.YtcoicmbjoaonoaaDoor
set_option linter.unusedVariables false
set_option linter.unusedSimpArgs false
open Go.RowKit
set_option maxRecDepth 100000
/-- The table of energies behind so many rows and places. -/
def tabS (r : Nat → Int) (a b : Nat) (i : Nat) : Int := if max (i / 40) (i % 40) < a ∨ (max (i / 40) (i % 40) = a ∧ min (i / 40) (i % 40) < b) then energyS r (i / 40) (i % 40) else 0
def tabF (r : Nat → Int) (i : Nat) : Int := energyS r (i / 40) (i % 40)
theorem tab_0 (r : Nat → Int) : row 1600 (tabS r 0 0) = row 1600 (fun _ => 0) := row_congr fun i hi => by unfold tabS; rw [if_neg (by omega)]
theorem tab_all (r : Nat → Int) : row 1600 (tabS r 40 0) = row 1600 (tabF r) := row_congr fun i hi => by unfold tabS tabF; rw [if_pos (by omega)]
theorem tab_next (r : Nat → Int) (a : Nat) : row 1600 (tabS r a (a + 1)) = row 1600 (tabS r (a + 1) 0) := row_congr fun i hi => by
  unfold tabS
  by_cases h : max (i / 40) (i % 40) < a ∨ (max (i / 40) (i % 40) = a ∧ min (i / 40) (i % 40) < a + 1)
  · rw [if_pos h, if_pos (by omega)]
  · rw [if_neg h, if_neg (by omega)]
theorem tab_step (r : Nat → Int) (a b : Nat) (ha : a < 40) (hb : b ≤ a) : row 1600 (fun j => if j = b * 40 + a then energyS r a b else if j = a * 40 + b then energyS r a b else tabS r a b j) = row 1600 (tabS r a (b + 1)) := row_congr fun i hi => by
  unfold tabS
  by_cases h1 : i = b * 40 + a
  · have e1 : i / 40 = b := by omega
    have e2 : i % 40 = a := by omega
    rw [if_pos h1, e1, e2, if_pos (by omega), energy_swap]
  · rw [if_neg h1]
    by_cases h2 : i = a * 40 + b
    · have e1 : i / 40 = a := by omega
      have e2 : i % 40 = b := by omega
      rw [if_pos h2, e1, e2, if_pos (by omega)]
    · rw [if_neg h2]
      by_cases h : max (i / 40) (i % 40) < a ∨ (max (i / 40) (i % 40) = a ∧ min (i / 40) (i % 40) < b)
      · rw [if_pos h, if_pos (by omega)]
      · rw [if_neg h, if_neg (by omega)]
def TabPost (r : Nat → Int) (w : World) (e : Ending) (w' : World) : Prop := ∃ g, e = .returned (.pointer (some ⟨g, 0, none⟩)) ∧ Has w w' [(g, 160, row 1600 (tabF r))]
set_option maxHeartbeats 6400000 in
set_option maxRecDepth 100000 in
theorem energies_any (r : Nat → Int) {v : Value} {w : World} (hr : ∀ i, i < 40 → In16 (r i)) (L : Lies w v 40 r) :
    Calls Tryd.prog 106 #[v] w (TabPost r w) := by
  obtain ⟨P, cap, g0, o0, rfl, hR⟩ := L
  have H := Has.start w
  have HR := Lib.hid hr
  clear hr
  go_enter Tryd.func106, Tryd.ntmps106
  go_wp2_with (refine wpList_on (o := ⟨some 3, .alloc 160, _, _, _, _⟩) rfl (fun K hK => ?_); refine wp_alloc H 160 rfl (z := (.agg (row 1600 fun _ => 0))) (by kernel_rfl) ?_; clear H; intro u g H; refine hK _ _ ?_; clear hK K; try simp only [Value.cells, List.cons_append, List.nil_append] at H)
  rw [← tab_0 r] at H
  go_loopw [8] (fun c wr => ∃ a : Nat, a ≤ 40 ∧ c = .int .i64 a ∧ Has w wr [(g, 160, row 1600 (tabS r a 0))]) (fun c _ => 40 - (intOf c).toNat)
  case atStart => exact ⟨0, by omega, rfl, H⟩
  clear H
  case round =>
    obtain ⟨a, ha, rfl, H⟩ := hrel
    by_cases hlt : a < 40
    · have q1 : (a : Int) < 40 := by omega
      go_wp2
      go_loopw [13] (fun c wr2 => ∃ b : Nat, b ≤ a + 1 ∧ c = .int .i64 b ∧ Has w wr2 [(g, 160, row 1600 (tabS r a b))]) (fun c _ => a + 1 - (intOf c).toNat)
      case atStart => exact ⟨0, by omega, rfl, H⟩
      clear H
      case round =>
        obtain ⟨b, hb, rfl, H⟩ := hrel
        by_cases hba : b ≤ a
        · have c1 := fun (u : World) (hb : Below w.heap.size w u) => Energy_any r P cap g0 o0 a b u HR.out (by omega) (by omega) (hR.below hb)
          have C1 := Lib.hid c1
          have HT := Lib.hid (tab_step r a b hlt hba)
          clear c1
          generalize energyS r a b = E at *
          go_wp2_with (go_at_call 111; (with_reducible refine (C1.out _ H.below).mono ?_); rintro e w1 ⟨rfl, hb⟩; replace H := H.callee hb; clear hb)
          refine wp_region_text [] (by kernel_rfl) (by kernel_rfl) (by kernel_rfl) ?_; replace H := H.drew; generalize World.drew _ = u at *
          have q2 : (b : Int) < 40 := by omega
          have q3 : a < 40 := by omega
          have q4 : b < 40 := by omega
          repeat (first | (refine ones_eff (o := ⟨_, .store 3 _ _, _, _, _, _⟩) rfl rfl (fun K hK => ?_); refine wp_store_row_ (l1 := []) H 3 _ _ rfl rfl rfl (by kernel_rfl) (by omega) ?_; clear H; intro u H; refine hK _ _ ?_; clear hK K; simp only [Act.put, List.setIfInBounds_toArray, List.set_cons_zero, List.set_cons_succ]; try simp only [Value.cells, List.cons_append, List.nil_append] at H) | (refine ones_free (v := ?_) rfl rfl ?_ ?_; rotate_left; (intro w'; go_simp; try with_reducible rfl); simp only [Act.put, List.setIfInBounds_toArray, List.set_cons_zero, List.set_cons_succ]))
          refine ones_nil ?_
          go_wp2
          go_roundw
          case rel => exact ⟨b + 1, by omega, by go_num, by rw [← HT.out]; exact H⟩
          case measure => simp [intOf]; omega
        · obtain rfl : b = a + 1 := by omega
          rw [tab_next] at H
          go_wp2
          go_roundw
          case rel => exact ⟨a + 1, by omega, by go_num, H⟩
          case measure => simp [intOf]; omega
    · obtain rfl : a = 40 := by omega
      rw [tab_all] at H
      go_wp2
      go_ret
      exact ⟨g, rfl, H⟩
def sgI (v : Int) : Int := if v < 0 then -1 else 1
theorem sgI_or (v : Int) : sgI v = 1 ∨ sgI v = -1 := by unfold sgI; split <;> simp
theorem sgI_abs (v : Int) : 0 ≤ sgI v * v := by unfold sgI; split <;> omega
theorem sign_any (v : Int) (w : World) : Calls Tryd.prog 112 #[.int .i64 v] w fun e w' => e = .returned (.int .i64 (sgI v)) ∧ w = w' := by
  by_cases h : v < 0
  · have e : sgI v = -1 := if_pos h
    go_enter Tryd.func112, Tryd.ntmps112
    go_wp2
    go_ret
    exact ⟨by first | rfl | (rw [e]; rfl), rfl⟩
  · have e : sgI v = 1 := if_neg h
    go_enter Tryd.func112, Tryd.ntmps112
    go_wp2
    go_ret
    exact ⟨by first | rfl | (rw [e]; rfl), rfl⟩
def atN (x : Nat → Int) (i : Nat) : Nat := i + 4 * (x i).toNat
theorem atN_lt {x : Nat → Int} (hx : ∀ i, i < 4 → 0 ≤ x i ∧ x i ≤ 9) (i : Nat) (hi : i < 4) : atN x i < 40 ∧ (i : Int) + 4 * x i = (atN x i : Nat) := by
  have := hx i hi
  unfold atN
  omega
def scC (d x : Nat → Int) (n : Nat) : Int := sumTo n (fun i => sgI (d (atN x i)) * d (atN x i))
def scR (d T x : Nat → Int) (i n : Nat) : Int := sumTo n (fun j => sgI (d (atN x i)) * sgI (d (atN x j)) * T (atN x i * 40 + atN x j))
def scE (d T x : Nat → Int) (n : Nat) : Int := sumTo n (fun i => scR d T x i 4)
theorem sg_term (a b t B : Int) (h : -B ≤ t ∧ t ≤ B) : -B ≤ sgI a * sgI b * t ∧ sgI a * sgI b * t ≤ B := by
  rcases sgI_or a with e | e <;> rcases sgI_or b with f | f <;> rw [e, f] <;> omega
theorem sg_self (a B : Int) (h : -B ≤ a ∧ a ≤ B) : -B ≤ sgI a * a ∧ sgI a * a ≤ B := by
  rcases sgI_or a with e | e <;> rw [e] <;> omega
theorem scC_bd {d x : Nat → Int} {B : Int} (hd : ∀ i, i < 40 → -B ≤ d i ∧ d i ≤ B) (hx : ∀ i, i < 4 → 0 ≤ x i ∧ x i ≤ 9) (n : Nat) (hn : n ≤ 4) : -(n * B) ≤ scC d x n ∧ scC d x n ≤ n * B :=
  sumTo_bd n fun i hi => sg_self _ _ (hd _ (atN_lt hx i (by omega)).1)
theorem scR_bd {d T x : Nat → Int} {B : Int} (hT : ∀ i, i < 1600 → -B ≤ T i ∧ T i ≤ B) (hx : ∀ i, i < 4 → 0 ≤ x i ∧ x i ≤ 9) (i n : Nat) (hi : i < 4) (hn : n ≤ 4) : -(n * B) ≤ scR d T x i n ∧ scR d T x i n ≤ n * B :=
  sumTo_bd n fun j hj => sg_term _ _ _ _ (hT _ (by
    have := (atN_lt hx i hi).1
    have := (atN_lt hx j (by omega)).1
    omega))
theorem scE_bd {d T x : Nat → Int} {B : Int} (hT : ∀ i, i < 1600 → -B ≤ T i ∧ T i ≤ B) (hx : ∀ i, i < 4 → 0 ≤ x i ∧ x i ≤ 9) (n : Nat) (hn : n ≤ 4) : -(n * (4 * B)) ≤ scE d T x n ∧ scE d T x n ≤ n * (4 * B) :=
  sumTo_bd n fun i hi => by
    have := scR_bd (d := d) hT hx i 4 (by omega) (by omega)
    exact this
def ScorePost (d T x : Nat → Int) (w : World) (e : Ending) (w' : World) : Prop := e = .returned (.tuple #[.int .i64 (scC d x 4), .int .i64 (scE d T x 4)]) ∧ Below w.heap.size w w'
set_option maxHeartbeats 6400000 in
set_option maxRecDepth 100000 in
theorem score_any (d T x : Nat → Int) (P : Option Addr) (cap g o gT : Nat) (w : World) (hd : ∀ i, i < 40 → -1099511627776 ≤ d i ∧ d i ≤ 1099511627776) (hT : ∀ i, i < 1600 → -42949672960 ≤ T i ∧ T i ≤ 42949672960) (hx : ∀ i, i < 4 → 0 ≤ x i ∧ x i ≤ 9)
    (hR1 : Reads w P 40 g o d) (hR2 : Reads w (some ⟨gT, 0, none⟩) 1600 gT 0 T) :
    Calls Tryd.prog 108 #[.slice P 40 cap, .pointer (some ⟨gT, 0, none⟩), .agg (row 4 x)] w (ScorePost d T x w) := by
  obtain rfl := hR1.ptr (by omega)
  have H := Has.start w
  have HX := Lib.hid hx
  have HD := Lib.hid hd
  have HT := Lib.hid hT
  have HC : Hid (∀ n : Nat, n ≤ 4 → -(n * 1099511627776) ≤ scC d x n ∧ scC d x n ≤ n * 1099511627776) := fun n hn => scC_bd hd hx n hn
  have HE : Hid (∀ n : Nat, n ≤ 4 → -(n * (4 * 42949672960)) ≤ scE d T x n ∧ scE d T x n ≤ n * (4 * 42949672960)) := fun n hn => scE_bd hT hx n hn
  have HB : Hid (∀ i n : Nat, i < 4 → n ≤ 4 → -(n * 42949672960) ≤ scR d T x i n ∧ scR d T x i n ≤ n * 42949672960) := fun i n hi hn => scR_bd hT hx i n hi hn
  clear hx hd hT
  go_enter Tryd.func108, Tryd.ntmps108
  go_wp2_with (first | ((refine wpList_on (o := ⟨_, .box _ (.tmp 2), _, _, _, _⟩) rfl (fun K hK => ?_)); (try simp only [Act.put, List.setIfInBounds_toArray, List.set_cons_zero, List.set_cons_succ]); refine wp_box H _ (.tmp 2) rfl (v := .agg _) rfl ?_; clear H; intro u gx H; refine hK _ _ ?_; clear hK K; try simp only [Value.cells, List.cons_append, List.nil_append] at H) | ((refine wpList_on (o := ⟨_, .load 39 _, _, _, _, _⟩) rfl (fun K hK => ?_)); (try simp only [Act.put, List.setIfInBounds_toArray, List.set_cons_zero, List.set_cons_succ]); refine wp_load_all H 39 _ rfl rfl (by repeat (first | exact List.mem_cons_self | apply List.mem_cons_of_mem | apply List.mem_append_right)) (by kernel_rfl) ?_; refine hK _ _ ?_; clear hK K))
  go_loopw [8, 9, 17] (fun c e v wr => ∃ i : Nat, i ≤ 4 ∧ v = .int .i64 i ∧ c = .int .i64 (scC d x i) ∧ e = .int .i64 (scE d T x i) ∧ Has w wr [(gx, 39, row 4 x)]) (fun _ _ v _ => 4 - (intOf v).toNat)
  case atStart => exact ⟨0, by omega, rfl, rfl, rfl, H⟩
  clear H
  case round =>
    obtain ⟨i, hi, rfl, rfl, rfl, H⟩ := hrel
    by_cases hlt : i < 4
    · have q1 : (i : Int) < 4 := by omega
      have hix := fun w => run_index_row (P := Tryd.prog) (n := 4) (i := i) Tryd.underlying39 Tryd.underlying3 (by kernel_rfl) (by kernel_rfl) x hlt w
      obtain ⟨x0, x1⟩ := HX.out i hlt
      obtain ⟨a0, a1⟩ := atN_lt HX.out i hlt
      obtain ⟨c0, c1⟩ := HC.out i hi
      obtain ⟨e0, e1⟩ := HE.out i hi
      have HN1 : Hid (scC d x (i + 1) = scC d x i + sgI (d (atN x i)) * d (atN x i)) := rfl
      have HN2 : Hid (scE d T x (i + 1) = scE d T x i + scR d T x i 4) := rfl
      have HN3 : Hid (∀ n, scR d T x i (n + 1) = scR d T x i n + sgI (d (atN x i)) * sgI (d (atN x n)) * T (atN x i * 40 + atN x n)) := fun n => rfl
      have HR0 : Hid (scR d T x i 0 = 0) := rfl
      generalize atN x i = A at *
      have q2 : (A : Int) < 40 := by omega
      have q3 : (0 : Int) ≤ (A : Int) := by omega
      obtain ⟨t0, t1⟩ := sg_self (d A) _ (HD.out A a0)
      have s1 : IntKind.i64.wrap (sgI (d A) * d A) = sgI (d A) * d A := IntWalk.i64_in _ (by omega)
      generalize hC : scC d x i = C at *
      generalize hE : scE d T x i = E at *
      clear hC hE
      go_wp2_with fail
      refine wp_region_text [112] (by kernel_rfl) (by kernel_rfl) (by kernel_rfl) ?_; replace H := H.drew; generalize World.drew _ = u at *
      have R1 := Reads.has hR1 H
      repeat (first | (refine ones_load_num R1 (o := ⟨_, .load 3 _, _, _, _, _⟩) 3 _ rfl rfl rfl rfl (by kernel_rfl) a0 ?_; simp only [Act.put, List.setIfInBounds_toArray, List.set_cons_zero, List.set_cons_succ]) | (refine' ones_call (o := ⟨_, .call _, _, _, _, _⟩) rfl rfl _ _; rotate_left; (unfold CallOf; go_simp; exact sign_any _ _); simp only [Act.put, List.setIfInBounds_toArray, List.set_cons_zero, List.set_cons_succ]) | (refine ones_free (v := ?_) rfl rfl ?_ ?_; rotate_left; (intro w'; go_simp; try with_reducible rfl); simp only [Act.put, List.setIfInBounds_toArray, List.set_cons_zero, List.set_cons_succ]))
      refine ones_nil ?_
      clear R1
      go_wp2_with ((refine wpList_on (o := ⟨_, .load 39 _, _, _, _, _⟩) rfl (fun K hK => ?_)); (try simp only [Act.put, List.setIfInBounds_toArray, List.set_cons_zero, List.set_cons_succ]); refine wp_load_all H 39 _ rfl rfl (by repeat (first | exact List.mem_cons_self | apply List.mem_cons_of_mem | apply List.mem_append_right)) (by kernel_rfl) ?_; refine hK _ _ ?_; clear hK K)
      go_loopw [9, 38] (fun e v wr2 => ∃ j : Nat, j ≤ 4 ∧ v = .int .i64 j ∧ e = .int .i64 (E + scR d T x i j) ∧ Has w wr2 [(gx, 39, row 4 x)]) (fun _ v _ => 4 - (intOf v).toNat)
      case atStart => exact ⟨0, by omega, rfl, by rw [HR0.out, Int.add_zero], H⟩
      clear H
      case round =>
        obtain ⟨j, hj, rfl, rfl, H⟩ := hrel
        by_cases hltj : j < 4
        · have q4 : (j : Int) < 4 := by omega
          have hix2 := fun w => run_index_row (P := Tryd.prog) (n := 4) (i := j) Tryd.underlying39 Tryd.underlying3 (by kernel_rfl) (by kernel_rfl) x hltj w
          obtain ⟨x2, x3⟩ := HX.out j hltj
          obtain ⟨b0, b1⟩ := atN_lt HX.out j hltj
          obtain ⟨r0, r1⟩ := HB.out i j hlt hj
          have HN4 := Lib.hid (HN3.out j)
          generalize atN x j = B at *
          have hcell : w.cell? ⟨gT, A * 40 + B, none⟩ = some (.int .i64 (T (A * 40 + B))) := by
            have := hR2.cell (A * 40 + B) (by omega)
            rwa [Nat.zero_add] at this
          have HCell := Lib.hid hcell
          obtain ⟨t2, t3⟩ := HT.out (A * 40 + B) (by omega)
          obtain ⟨t4, t5⟩ := sg_term (d A) (d B) _ _ ⟨t2, t3⟩
          clear hcell t2 t3
          generalize T (A * 40 + B) = V at *
          have q5 : (B : Int) < 40 := by omega
          have q6 : (0 : Int) ≤ (B : Int) := by omega
          have s2 : IntKind.i64.wrap (sgI (d A) * sgI (d B)) = sgI (d A) * sgI (d B) := by
            rcases sgI_or (d A) with e | e <;> rcases sgI_or (d B) with f | f <;> rw [e, f] <;> rfl
          have s3 : IntKind.i64.wrap (sgI (d A) * sgI (d B) * V) = sgI (d A) * sgI (d B) * V := IntWalk.i64_in _ (by omega)
          generalize hR : scR d T x i j = R at *
          clear hR
          go_wp2_with fail
          refine wp_region_text [112] (by kernel_rfl) (by kernel_rfl) (by kernel_rfl) ?_; replace H := H.drew; generalize World.drew _ = u at *
          have R1 := Reads.has hR1 H
          repeat (first | (refine ones_load_num R1 (o := ⟨_, .load 3 _, _, _, _, _⟩) 3 _ rfl rfl rfl rfl (by kernel_rfl) a0 ?_; simp only [Act.put, List.setIfInBounds_toArray, List.set_cons_zero, List.set_cons_succ]) | (refine ones_load_num R1 (o := ⟨_, .load 3 _, _, _, _, _⟩) 3 _ rfl rfl rfl rfl (by kernel_rfl) b0 ?_; simp only [Act.put, List.setIfInBounds_toArray, List.set_cons_zero, List.set_cons_succ]) | (refine ones_load_old H (o := ⟨_, .load 3 _, _, _, _, _⟩) 3 _ rfl rfl rfl rfl (by kernel_rfl) HCell.out ?_; simp only [Act.put, List.setIfInBounds_toArray, List.set_cons_zero, List.set_cons_succ]) | (refine' ones_call (o := ⟨_, .call _, _, _, _, _⟩) rfl rfl _ _; rotate_left; (unfold CallOf; go_simp; exact sign_any _ _); simp only [Act.put, List.setIfInBounds_toArray, List.set_cons_zero, List.set_cons_succ]) | (refine ones_free (v := ?_) rfl rfl ?_ ?_; rotate_left; (intro w'; go_simp; try with_reducible rfl); simp only [Act.put, List.setIfInBounds_toArray, List.set_cons_zero, List.set_cons_succ]))
          refine ones_nil ?_
          clear R1
          go_wp2
          go_roundw
          case rel => exact ⟨j + 1, by omega, by go_num, by
            rw [HN4.out]
            generalize sgI (d A) * sgI (d B) * V = q at *
            rw [IntWalk.i64_in (E + R + q) (by omega)]
            congr 1; omega, H⟩
          case measure => simp [intOf]; omega
        · obtain rfl : j = 4 := by omega
          go_wp2
          go_roundw
          case rel => exact ⟨i + 1, by omega, by go_num, by rw [HN1.out], by rw [HN2.out], H⟩
          case measure => simp [intOf]; omega
    · obtain rfl : i = 4 := by omega
      go_wp2
      go_ret2
      exact ⟨rfl, H.below⟩
end Go.Proofs.YtcoicmbjoaonoaaDoor
/-
  pulses.Score, targets walked; sums of scores; the walk of ScoreHeard. No statement is proved here.
-/
namespace Go.Proofs.YtcoicmbjoaonoaaDoor
set_option linter.unusedVariables false
set_option linter.unusedSimpArgs false
open Go.RowKit
set_option maxRecDepth 100000
theorem sumTo_mulL (c : Int) (f : Nat → Int) : ∀ n, sumTo n (fun j => c * f j) = c * sumTo n f
  | 0 => by simp [sumTo]
  | n + 1 => by rw [sumTo, sumTo, sumTo_mulL c f n, Int.mul_add]
theorem sumTo_mulR (c : Int) (f : Nat → Int) (n : Nat) : sumTo n (fun j => f j * c) = sumTo n f * c := by
  rw [Int.mul_comm, ← sumTo_mulL]
  exact sumTo_congr n fun i _ => Int.mul_comm _ _
theorem sumTo_comm (f : Nat → Nat → Int) (m : Nat) : ∀ n, sumTo n (fun i => sumTo m (f i)) = sumTo m (fun k => sumTo n (fun i => f i k))
  | 0 => (sumTo_zero m fun _ _ => rfl).symm
  | n + 1 => by
    rw [sumTo, sumTo_comm f m n, ← sumTo_add]
    exact sumTo_congr m fun _ _ => rfl
/-- A ring begun at a sample. -/
def ringA (r : Nat → Int) (a k : Nat) : Int := if k < a then 0 else r (k - a)
theorem energy_dot (r : Nat → Int) {a b : Nat} (ha : a < 40) (hb : b < 40) : energyS r a b = sumTo 40 (fun k => ringA r a k * ringA r b k) := by
  have e : (40 : Nat) = max a b + (40 - max a b) := by omega
  have h : sumTo (max a b + (40 - max a b)) (fun k => ringA r a k * ringA r b k) = energyS r a b := by
    rw [sumTo_split, sumTo_zero (max a b) (fun i hi => by
      unfold ringA
      by_cases h : i < a
      · rw [if_pos h, Int.zero_mul]
      · rw [if_pos (show i < b by omega), Int.mul_zero]), Int.zero_add]
    unfold energyS enS
    exact sumTo_congr _ fun i _ => by
      unfold ringA
      rw [if_neg (by omega), if_neg (by omega)]
  rw [← e] at h
  exact h.symm
def waveS (d r x : Nat → Int) (k : Nat) : Int := sumTo 4 (fun i => sgI (d (atN x i)) * ringA r (atN x i) k)
theorem scE_sq (d r x : Nat → Int) (hx : ∀ i, i < 4 → 0 ≤ x i ∧ x i ≤ 9) : scE d (tabF r) x 4 = sumTo 40 (fun k => waveS d r x k * waveS d r x k) := by
  have h1 : ∀ i, i < 4 → scR d (tabF r) x i 4 = sumTo 40 (fun k => sgI (d (atN x i)) * ringA r (atN x i) k * waveS d r x k) := fun i hi => by
    unfold scR
    have e1 : sumTo 4 (fun j => sgI (d (atN x i)) * sgI (d (atN x j)) * tabF r (atN x i * 40 + atN x j)) = sumTo 4 (fun j => sumTo 40 (fun k => sgI (d (atN x i)) * ringA r (atN x i) k * (sgI (d (atN x j)) * ringA r (atN x j) k))) := sumTo_congr 4 fun j hj => by
      have a1 := (atN_lt hx i hi).1
      have a2 := (atN_lt hx j hj).1
      unfold tabF
      rw [show (atN x i * 40 + atN x j) / 40 = atN x i by omega, show (atN x i * 40 + atN x j) % 40 = atN x j by omega, energy_dot r a1 a2, ← sumTo_mulL]
      exact sumTo_congr 40 fun k _ => by
        generalize sgI (d (atN x i)) = p
        generalize sgI (d (atN x j)) = q
        generalize ringA r (atN x i) k = u
        generalize ringA r (atN x j) k = v
        rw [Int.mul_assoc p u, Int.mul_assoc p q, ← Int.mul_assoc u q v, Int.mul_comm u q, Int.mul_assoc q u v]
    rw [e1, sumTo_comm]
    exact sumTo_congr 40 fun k _ => sumTo_mulL _ _ 4
  unfold scE
  rw [sumTo_congr 4 h1, sumTo_comm]
  exact sumTo_congr 40 fun k _ => sumTo_mulR _ _ 4
theorem scE_nonneg (d r x : Nat → Int) (hx : ∀ i, i < 4 → 0 ≤ x i ∧ x i ≤ 9) : 0 ≤ scE d (tabF r) x 4 := by
  rw [scE_sq d r x hx]
  exact sumTo_nonneg 40 fun k _ => sq_nonneg _
theorem scC_nonneg (d x : Nat → Int) (n : Nat) : 0 ≤ scC d x n := sumTo_nonneg n fun i _ => sgI_abs _
theorem tabF_bd {r : Nat → Int} (hr : ∀ i, i < 40 → In16 (r i)) (i : Nat) (hi : i < 1600) : -42949672960 ≤ tabF r i ∧ tabF r i ≤ 42949672960 := by
  have h := sumTo_bd (f := fun j => r (max (i / 40) (i % 40) + j - i / 40) * r (max (i / 40) (i % 40) + j - i % 40)) (B := 1073741824) (40 - max (i / 40) (i % 40)) (fun j hj => en_term hr _ _ (by omega) (by omega))
  unfold tabF energyS enS
  generalize sumTo (40 - max (i / 40) (i % 40)) _ = S at *
  omega
def Score3Post (d r x : Nat → Int) (w : World) (e : Ending) (w' : World) : Prop := e = .returned (.tuple #[.int .i64 (scC d x 4), .int .i64 (scE d (tabF r) x 4), .int .i64 0]) ∧ Below w.heap.size w w'
end Go.Proofs.YtcoicmbjoaonoaaDoor
/-
  The best of many places, in the order in which they are named: plain laws. No statement is proved here.
-/
namespace Go.Proofs.YtcoicmbjoaonoaaDoor
set_option linter.unusedVariables false
set_option linter.unusedSimpArgs false
open Go.RowKit
set_option maxRecDepth 100000
theorem best_not {c e d f : Int} : betterB c e d f = false ↔ (e ≤ 0 ∨ (0 < e ∧ 0 < f ∧ max c 0 * max c 0 * f ≤ max d 0 * max d 0 * e)) := by
  unfold betterB
  by_cases h : e ≤ 0 ∨ f ≤ 0
  · rw [if_pos h]; simp; omega
  · rw [if_neg h]
    simp
    constructor
    · intro h1; exact .inr ⟨by omega, by omega, h1⟩
    · rintro (h1 | ⟨_, _, h1⟩)
      · omega
      · exact h1
theorem nb_self (c e : Int) : betterB c e c e = false := best_not.2 (by by_cases h : e ≤ 0; exact .inl h; exact .inr ⟨by omega, by omega, Int.le_refl _⟩)
theorem nb_trans {c e d f g h : Int} (h1 : betterB c e d f = false) (h2 : betterB d f g h = false) : betterB c e g h = false := by
  rw [best_not] at *
  rcases h1 with h1 | ⟨a1, a2, a3⟩
  · exact .inl h1
  · rcases h2 with h2 | ⟨b1, b2, b3⟩
    · omega
    · refine .inr ⟨a1, b2, ?_⟩
      generalize max c 0 * max c 0 = C at *
      generalize max d 0 * max d 0 = D at *
      generalize max g 0 * max g 0 = G at *
      have k1 : C * f * h ≤ D * e * h := Int.mul_le_mul_of_nonneg_right a3 (by omega)
      have k2 : D * h * e ≤ G * f * e := Int.mul_le_mul_of_nonneg_right b3 (by omega)
      have e1 : D * e * h = D * h * e := by rw [Int.mul_assoc, Int.mul_comm e h, ← Int.mul_assoc]
      have e2 : C * f * h = C * h * f := by rw [Int.mul_assoc, Int.mul_comm f h, ← Int.mul_assoc]
      have e3 : G * f * e = G * e * f := by rw [Int.mul_assoc, Int.mul_comm f e, ← Int.mul_assoc]
      have a3 : C * h * f ≤ G * e * f := by omega
      exact Int.le_of_mul_le_mul_right a3 a2
theorem nb_asym {c e d f : Int} (h : betterB c e d f = true) : betterB d f c e = false := by
  rw [best_not]
  unfold betterB at h
  by_cases h1 : e ≤ 0 ∨ f ≤ 0
  · rw [if_pos h1] at h
    simp at h
    omega
  · rw [if_neg h1] at h
    simp only [decide_eq_true_eq] at h
    exact .inr ⟨by omega, by omega, by omega⟩
/-- The state of a search: is it the first one, its sums, its places. -/
structure St where
  first : Bool
  bc : Int
  be : Int
  at_ : Nat → Int
def bstep (c e : (Nat → Int) → Int) (s : St) (x : Nat → Int) : St := if s.first = true ∨ betterB (c x) (e x) s.bc s.be = true then ⟨false, c x, e x, x⟩ else s
def st0 : St := ⟨true, 0, 0, fun _ => 0⟩
/-- What holds of a state behind some places. -/
structure StOk (c e : (Nat → Int) → Int) (V : (Nat → Int) → Prop) (s : St) : Prop where
  own : s.first = true ∨ (V s.at_ ∧ s.bc = c s.at_ ∧ s.be = e s.at_)
  best : ∀ x, V x → s.first = false ∧ betterB (c x) (e x) s.bc s.be = false
theorem stOk_0 (c e : (Nat → Int) → Int) : StOk c e (fun _ => False) st0 := ⟨.inl rfl, fun _ h => h.elim⟩
theorem stOk_step {c e : (Nat → Int) → Int} {V : (Nat → Int) → Prop} {s : St} (h : StOk c e V s) (x : Nat → Int) : StOk c e (fun y => V y ∨ y = x) (bstep c e s x) := by
  unfold bstep
  by_cases h1 : s.first = true ∨ betterB (c x) (e x) s.bc s.be = true
  · rw [if_pos h1]
    refine ⟨.inr ⟨.inr rfl, rfl, rfl⟩, fun y hy => ⟨rfl, ?_⟩⟩
    rcases hy with hy | rfl
    · obtain ⟨a1, a2⟩ := h.best y hy
      rcases h1 with h1 | h1
      · rw [a1] at h1; cases h1
      · exact nb_trans a2 (nb_asym h1)
    · exact nb_self _ _
  · rw [if_neg h1]
    have h2 : s.first = false := by
      cases hf : s.first
      · rfl
      · exact absurd (.inl hf) h1
    have h3 : betterB (c x) (e x) s.bc s.be = false := by
      cases hb : betterB (c x) (e x) s.bc s.be
      · rfl
      · exact absurd (.inr hb) h1
    refine ⟨?_, fun y hy => ?_⟩
    · rcases h.own with h4 | ⟨h4, h5⟩
      · rw [h2] at h4; cases h4
      · exact .inr ⟨.inl h4, h5⟩
    · rcases hy with hy | rfl
      · exact h.best y hy
      · exact ⟨h2, h3⟩
def runS (c e : (Nat → Int) → Int) (xs : Nat → Nat → Int) : Nat → St
  | 0 => st0
  | n + 1 => bstep c e (runS c e xs n) (xs n)
theorem runS_ok (c e : (Nat → Int) → Int) (xs : Nat → Nat → Int) : ∀ n, StOk c e (fun y => ∃ k, k < n ∧ y = xs k) (runS c e xs n)
  | 0 => ⟨.inl rfl, fun _ ⟨k, hk, _⟩ => by omega⟩
  | n + 1 => by
    have h := stOk_step (runS_ok c e xs n) (xs n)
    refine ⟨?_, fun y hy => h.best y ?_⟩
    · rcases h.own with h1 | ⟨h1, h2⟩
      · exact .inl h1
      · refine .inr ⟨?_, h2⟩
        rcases h1 with ⟨k, hk, e1⟩ | e1
        · exact ⟨k, by omega, e1⟩
        · exact ⟨n, by omega, e1⟩
    · obtain ⟨k, hk, e1⟩ := hy
      by_cases e2 : k = n
      · subst e2; exact .inr e1
      · exact .inl ⟨k, by omega, e1⟩
/-- The best one of n places. -/
theorem runS_best (c e : (Nat → Int) → Int) (xs : Nat → Nat → Int) {n : Nat} (hn : 0 < n) : (∃ k, k < n ∧ (runS c e xs n).at_ = xs k) ∧ ∀ k, k < n → betterB (c (xs k)) (e (xs k)) (c (runS c e xs n).at_) (e (runS c e xs n).at_) = false := by
  have h := runS_ok c e xs n
  have h0 := (h.best (xs 0) ⟨0, hn, rfl⟩).1
  rcases h.own with h1 | ⟨⟨k, hk, e1⟩, e2, e3⟩
  · rw [h0] at h1; cases h1
  · refine ⟨⟨k, hk, e1⟩, fun j hj => ?_⟩
    have := (h.best (xs j) ⟨j, hj, rfl⟩).2
    rwa [e2, e3] at this
/-- Places that are the same go the same. -/
theorem scC_congr {d x y : Nat → Int} (h : ∀ i, i < 4 → x i = y i) : scC d x 4 = scC d y 4 := sumTo_congr 4 fun i hi => by
  have : atN x i = atN y i := by unfold atN; rw [h i hi]
  rw [this]
theorem scE_congr {d T x y : Nat → Int} (h : ∀ i, i < 4 → x i = y i) : scE d T x 4 = scE d T y 4 := sumTo_congr 4 fun i hi => by
  have e1 : atN x i = atN y i := by unfold atN; rw [h i hi]
  unfold scR
  exact sumTo_congr 4 fun j hj => by
    have e2 : atN x j = atN y j := by unfold atN; rw [h j hj]
    rw [e1, e2]
/-- Place n of all. -/
def digX (n i : Nat) : Int := ((n / 10 ^ (3 - i) % 10 : Nat) : Int)
theorem digX_in (n : Nat) : ∀ i, i < 4 → 0 ≤ digX n i ∧ digX n i ≤ 9 := fun i _ => by unfold digX; omega
theorem digX_of {x : Nat → Int} (hx : ∀ i, i < 4 → 0 ≤ x i ∧ x i ≤ 9) : ∃ n, n < 10000 ∧ ∀ i, i < 4 → x i = digX n i := by
  have h0 := hx 0 (by omega)
  have h1 := hx 1 (by omega)
  have h2 := hx 2 (by omega)
  have h3 := hx 3 (by omega)
  refine ⟨(x 0 * 1000 + x 1 * 100 + x 2 * 10 + x 3).toNat, by omega, fun i hi => ?_⟩
  unfold digX
  have : i = 0 ∨ i = 1 ∨ i = 2 ∨ i = 3 := by omega
  rcases this with rfl | rfl | rfl | rfl <;> simp <;> omega
/-- A place with another number on one track. -/
def onT (x : Nat → Int) (t k i : Nat) : Int := if i = t then (k : Int) else x i
theorem onT_in {x : Nat → Int} (hx : ∀ i, i < 4 → 0 ≤ x i ∧ x i ≤ 9) (t k : Nat) (hk : k < 10) : ∀ i, i < 4 → 0 ≤ onT x t k i ∧ onT x t k i ≤ 9 := fun i hi => by
  unfold onT
  split
  · omega
  · exact hx i hi
theorem onT_self {x : Nat → Int} (hx : ∀ i, i < 4 → 0 ≤ x i ∧ x i ≤ 9) {t : Nat} (ht : t < 4) : ∃ k, k < 10 ∧ ∀ i, i < 4 → x i = onT x t k i := by
  have := hx t ht
  refine ⟨(x t).toNat, by omega, fun i _ => ?_⟩
  unfold onT
  by_cases e : i = t
  · rw [if_pos e, e]; omega
  · rw [if_neg e]
end Go.Proofs.YtcoicmbjoaonoaaDoor
