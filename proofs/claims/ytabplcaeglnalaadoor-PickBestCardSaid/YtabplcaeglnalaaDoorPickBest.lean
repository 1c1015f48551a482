/-
  The walk of PickBest. No statement is proved here.
-/
import Derived.Test.YtabplcaeglnalaaDoorOpenBest
import Derived.Test.YtabplcaeglnalaaDoorFold
import Derived.Test.YtabplcaeglnalaaDoorRegTwo
namespace Go.Proofs.YtabplcaeglnalaaDoor
open Go.RowKit
def histI (p : Nat → Int) (i : Nat) : Int := s16I (p i)
set_option maxHeartbeats 1600000 in
theorem history_any (p : Nat → Int) (w : World) :
    Calls Tryd.prog 11 #[.agg (row 80 p)] w fun e w' => e = .returned (.agg (row 80 (histI p))) ∧ Below w.heap.size w w' := by
  have H := Has.start w
  go_enter Tryd.func11, Tryd.ntmps11
  go_wp2_with (first | ((refine wpList_on (o := ⟨_, .box _ (.tmp 0), _, _, _, _⟩) rfl (fun K hK => ?_)); refine wp_box H _ (.tmp 0) rfl (v := .agg _) rfl ?_; clear H; intro u gp H; refine hK _ _ ?_; clear hK K; try simp only [Value.cells, List.cons_append, List.nil_append] at H) | (refine wpList_on (o := ⟨some 2, .alloc 32, _, _, _, _⟩) rfl (fun K hK => ?_); refine wp_alloc H 32 rfl (z := (.agg (row 80 fun _ => 0))) (by kernel_rfl) ?_; clear H; intro u gr H; refine hK _ _ ?_; clear hK K; try simp only [Value.cells, List.cons_append, List.nil_append] at H))
  go_loopw [4] (fun c wr => ∃ k : Nat, k ≤ 80 ∧ c = .int .i64 k ∧ Has w wr [(gr, 32, row 80 fun _ => 0), (gp, 32, row 80 fun i => if i < k then s16I (p i) else p i)]) (fun c _ => 80 - (intOf c).toNat)
  case atStart => exact ⟨0, by omega, rfl, H⟩
  clear H
  case round =>
    obtain ⟨k, hk, rfl, H⟩ := hrel
    by_cases hlt : k < 80
    · have HE : Hid ((fun i => if i < k + 1 then s16I (p i) else p i) = fun j => if j = k then s16I (p k) else if j < k then s16I (p j) else p j) := by
        show (fun i => if i < k + 1 then s16I (p i) else p i) = _
        funext i
        by_cases e : i = k
        · subst e; simp
        · have : i < k + 1 ↔ i < k := by omega
          simp [e, this]
      have e0 : (if k < k then s16I (p k) else p k) = p k := by simp
      go_wp2_with (first | ((refine wpList_on (o := ⟨_, .load 3 _, _, _, _, _⟩) rfl (fun K hK => ?_)); refine wp_load_one H 3 _ rfl rfl (by repeat (first | exact List.mem_cons_self | apply List.mem_cons_of_mem | apply List.mem_append_right)) (by kernel_rfl) (row_get _ (by omega)) ?_; refine hK _ _ ?_; clear hK K) | (go_at_call 16; (with_reducible refine (s16I_any _ _).mono ?_); rintro e w1 ⟨rfl, rfl⟩) | ((refine wpList_on (o := ⟨_, .store 3 _ _, _, _, _, _⟩) rfl (fun K hK => ?_)); refine wp_store_row_ (l1 := [_]) H 3 _ _ rfl rfl rfl (by kernel_rfl) (by omega) ?_; clear H; intro u H; refine hK _ _ ?_; clear hK K; try simp only [Value.cells, List.cons_append, List.nil_append] at H))
      go_roundw
      case rel => exact ⟨k + 1, by omega, by go_num, by rw [HE.out]; simpa using H⟩
      case measure => simp [intOf]; omega
    · obtain rfl : k = 80 := by omega
      have HE : Hid (row 80 (fun i => if i < 80 then s16I (p i) else p i) = row 80 (histI p)) := row_congr fun i hi => if_pos hi
      go_wp2_with (first | ((refine wpList_on (o := ⟨_, .load 32 _, _, _, _, _⟩) rfl (fun K hK => ?_)); refine wp_load_all H 32 _ rfl rfl (by repeat (first | exact List.mem_cons_self | apply List.mem_cons_of_mem | apply List.mem_append_right)) (by kernel_rfl) ?_; refine hK _ _ ?_; clear hK K) | ((refine wpList_on (o := ⟨_, .store 32 _ _, _, _, _, _⟩) rfl (fun K hK => ?_)); refine wp_store_all (l1 := []) H 32 _ _ rfl rfl rfl (by kernel_rfl) (by simp [row_size]) (row_one _ _) ?_; clear H; intro u H; refine hK _ _ ?_; clear hK K; try simp only [Value.cells, List.cons_append, List.nil_append] at H))
      refine bodyPost_ret (results_one rfl _ H rfl (by repeat (first | exact List.mem_cons_self | apply List.mem_cons_of_mem | apply List.mem_append_right)) (by kernel_rfl)) rfl ⟨by rw [HE.out], H.below⟩
theorem cell_of {w u : World} {bs : List (Nat × TypeId × Array Value)} {g : Nat} {ty : TypeId} {v : Value} (H : Has w u bs) (hm : (g, ty, #[v]) ∈ bs) : u.cell? ⟨g, 0, none⟩ = some v := by
  rw [(H.at_ hm).cell]; rfl
/-- The folder of PickBest. -/
theorem folder_any (r x : Nat → Int) (gb : Nat) {rv v : Value} {u : World} (hr : ∀ i, i < 40 → In16 (r i)) (hx : ∀ i, i < 40 → In16 (x i)) (hc : u.cell? ⟨gb, 0, none⟩ = some rv) (LR : Lies u rv 40 r) (LX : Lies u v 40 x) :
    Calls Tryd.prog 12 #[v, .pointer (some ⟨gb, 0, none⟩)] u fun e w' => ∃ v' tl, e = .returned v' ∧ Rowed 3 1 v' 40 (fun i => .int .i64 (foldOut r x i)) tl ∧ Has u w' tl := by
  have H := Has.start u
  have c1 := fun (w : World) (hb : Below u.heap.size u w) => Fold_l (u := w) (n := 40) (by omega) hr hx (LR.below hb) (LX.below hb)
  have C1 := Lib.hid c1
  clear c1
  go_enter Tryd.func12, Tryd.ntmps12
  go_wp2_with (first | ((refine wpList_on (o := ⟨_, .load 22 _, _, _, _, _⟩) rfl (fun K hK => ?_)); refine wp_load_old H 22 _ rfl rfl (by kernel_rfl) (hc) ?_; refine hK _ _ ?_; clear hK K) | (go_at_call 13; (with_reducible refine (C1.out _ H.below).mono ?_); rintro e w1 ⟨vf, tl, rfl, RO, hb⟩; replace H := H.join hb; clear hb; (try simp only [List.append_nil] at H)))
  go_ret
  exact ⟨vf, tl, rfl, RO, H⟩
theorem results_four {fn : Func} {t u v x : Tmp} (h : fn.results = #[.tmp t, .tmp u, .tmp v, .tmp x]) (tmps : Array Value) {P : Program} (w : World) :
    (results fn tmps).run P w = .ok (.tuple #[tmps.getD t undef, tmps.getD u undef, tmps.getD v undef, tmps.getD x undef]) w := by
  simp [results, h]
abbrev fdF (h r : Nat → Int) (j : Nat) : Nat → Int := foldOut r (pastF h j)
def pkC (h t r : Nat → Int) (j : Nat) : Int := dotF t (fdF h r j) 40
def pkE (h r : Nat → Int) (j : Nat) : Int := dotF (fdF h r j) (fdF h r j) 40
def PickPost (h t r : Nat → Int) (w : World) (e : Ending) (w' : World) : Prop := ∃ (best : Nat) (bc be : Int), e = .returned (.tuple #[.int .i64 best, .int .i64 bc, .int .i64 be, .int .i64 0]) ∧ BestOf (pkC h t r) (pkE h r) 80 bc be best ∧ bc ≤ 85899345920 ∧ be ≤ 85899345920 ∧ Below w.heap.size w w'
theorem fd_in (h r : Nat → Int) (j : Nat) : ∀ i, In16 (fdF h r j i) := fun i => foldOut_bd _ _ i
set_option maxHeartbeats 12800000 in
set_option maxRecDepth 100000 in
theorem Pick_any (h t r : Nat → Int) (gb : Nat) {rv v : Value} {w : World} (hh : ∀ i, In16 (h i)) (hr : ∀ i, i < 40 → In16 (r i)) (ht : ∀ i, i < 40 → In16 (t i)) (hc : w.cell? ⟨gb, 0, none⟩ = some rv) (LR : Lies w rv 40 r) (LT : Lies w v 40 t) :
    Calls Tryd.prog 14 #[.agg (row 80 h), .func (.func 12) #[] #[.pointer (some ⟨gb, 0, none⟩)], v] w (PickPost h t r w) := by
  have H := Has.start w
  have c1 := fun (u : World) (hb : Below w.heap.size w u) => pitchRight_l (w := u) (n := 40) (by omega) ht (LT.below hb)
  have c2 := fun (u : World) (g : Nat) (ty : TypeId) (bs : List (Nat × TypeId × Array Value)) (H : Has w u bs) (hm : (g, ty, row 80 h) ∈ bs) => pitchRight_l (w := u) (v := .slice (some ⟨g, 0, none⟩) 80 80) (n := 80) (by omega) (fun i _ => hh i) (H.lies hm (Nat.le_refl _))
  have c3 := fun (j : Nat) (v' : Value) (u : World) (L : Lies u v' 40 (fdF h r j)) => pitchRight_l (w := u) (n := 40) (by omega) (fun i _ => fd_in h r j i) L
  have c4 := fun (j : Nat) (v' : Value) (u : World) (hb : Below w.heap.size w u) (L : Lies u v' 40 (fdF h r j)) => pitchDot_l (w := u) (n := 40) (by omega) ht (fun i _ => fd_in h r j i) (LT.below hb) L
  have c5 := fun (j : Nat) (v' : Value) (u : World) (L : Lies u v' 40 (fdF h r j)) => pitchDot_l (w := u) (n := 40) (by omega) (fun i _ => fd_in h r j i) (fun i _ => fd_in h r j i) L L
  have c6 := fun (j : Nat) (v' : Value) (u : World) (bs : List (Nat × TypeId × Array Value)) (H : Has w u bs) (L : Lies u v' 40 (pastF h j)) => folder_any r (pastF h j) gb (v := v') (u := u) hr (fun i _ => hh _) (H.old_cell hc) (LR.has H) L
  have HP : Hid (∀ j, 0 < pkC h t r j → 0 < pkE h r j) := fun j hj => dot_pos hj
  have HB1 : Hid (∀ j, pkC h t r j ≤ 85899345920) := fun j => by
    have := (dot_bd (a := t) (b := fdF h r j) (n := 40) ht (fun i _ => fd_in h r j i)).2
    unfold pkC; omega
  have HB2 : Hid (∀ j, pkE h r j ≤ 85899345920) := fun j => by
    have := (dot_bd (a := fdF h r j) (b := fdF h r j) (n := 40) (fun i _ => fd_in h r j i) (fun i _ => fd_in h r j i)).2
    unfold pkE; omega
  have C1 := Lib.hid c1
  have C2 := Lib.hid c2
  have C3 := Lib.hid c3
  have C4 := Lib.hid c4
  have C5 := Lib.hid c5
  have C6 := Lib.hid c6
  clear c1 c2 c3 c4 c5 c6 hr ht hc LR hh
  obtain ⟨PT, capT, gT, oT, rfl, RT⟩ := LT
  have heq : ∀ u : World, (binOp .eql 36 (.func (.func 12) #[] #[.pointer (some ⟨gb, 0, none⟩)]) .nilFunc).run Tryd.prog u = .ok (.bool false) u := fun u => by kernel_rfl
  go_enter Tryd.func14, Tryd.ntmps14
  go_wp2_with (first | ((refine wpList_on (o := ⟨_, .box _ (.tmp 0), _, _, _, _⟩) rfl (fun K hK => ?_)); refine wp_box H _ (.tmp 0) rfl (v := .agg _) rfl ?_; clear H; intro u gh H; refine hK _ _ ?_; clear hK K; try simp only [Value.cells, List.cons_append, List.nil_append] at H) | (go_at_call 17; (with_reducible refine (C1.out _ H.below).mono ?_); rintro e w1 ⟨rfl, rfl⟩) | (go_at_call 17; (with_reducible refine (C2.out _ _ _ _ H (by repeat (first | exact List.mem_cons_self | apply List.mem_cons_of_mem | apply List.mem_append_right))).mono ?_); rintro e w1 ⟨rfl, rfl⟩))
  clear C1 C2 heq
  go_loopw [10, 11, 12, 13] (fun x y z v wr => ∃ (k best : Nat) (bc be : Int), 20 ≤ k ∧ k ≤ 80 ∧ v = .int .i64 k ∧ x = .int .i64 best ∧ y = .int .i64 bc ∧ z = .int .i64 be ∧ Hid (BestOf (pkC h t r) (pkE h r) k bc be best) ∧ Hid (bc ≤ 85899345920 ∧ be ≤ 85899345920) ∧ Has w wr [(gh, 32, row 80 h)]) (fun _ _ _ v _ => 80 - (intOf v).toNat)
  case atStart => exact ⟨20, 20, 0, 0, by omega, by omega, rfl, rfl, rfl, rfl, best_none _ _, ⟨by omega, by omega⟩, H⟩
  clear H
  case round =>
    obtain ⟨k, best, bc, be, hk0, hk, rfl, rfl, rfl, rfl, HI, HW, H⟩ := hrel
    by_cases hlt : k < 80
    · have q1 : (k : Int) ≤ 79 := by omega
      have b1 := HB1.out k
      have b2 := HB2.out k
      have kb := fun u : World => Better_any (pkC h t r k) (pkE h r k) bc be u (by omega) (by omega) (by have := HW.out.1; omega) (by have := HW.out.2; omega)
      have i1 := fun h => best_skip HI.out h
      have i2 := fun h1 h2 => best_keep HI.out h1 h2
      have i3 := fun h1 h2 => best_take HI.out hk0 HP.out h1 h2
      have hpos := HP.out k
      have I1 := Lib.hid i1
      have I2 := Lib.hid i2
      have I3 := Lib.hid i3
      have k4 := C4.out k
      have k5 := C5.out k
      have e4 : dotF t (fdF h r k) 40 = pkC h t r k := rfl
      have e5 : dotF (fdF h r k) (fdF h r k) 40 = pkE h r k := rfl
      rw [e4] at k4
      rw [e5] at k5
      have D4 := Lib.hid k4
      have D5 := Lib.hid k5
      have HWn : Hid (pkC h t r k ≤ 85899345920 ∧ pkE h r k ≤ 85899345920) := ⟨b1, b2⟩
      clear k4 k5 i1 i2 i3 b1 b2 e4 e5
      generalize hbb : betterB (pkC h t r k) (pkE h r k) bc be = tb at *
      clear hbb
      have CB := Lib.hid kb
      clear kb
      generalize pkC h t r k = C at *
      generalize pkE h r k = E at *
      by_cases hcc : C ≤ 0
      · have HN := Lib.hid (I1.out hcc)
        have d1 := le_yes hcc
        clear I1 I2 I3 hcc hpos
        go_wp2_with (first | ((refine wpList_on (o := ⟨_, .load 32 _, _, _, _, _⟩) rfl (fun K hK => ?_)); refine wp_load_all H 32 _ rfl rfl (by repeat (first | exact List.mem_cons_self | apply List.mem_cons_of_mem | apply List.mem_append_right)) (by kernel_rfl) ?_; refine hK _ _ ?_; clear hK K) | (go_at_call 15; (with_reducible refine (Past_any h k _ hk0 (by omega)).mono ?_); rintro e w1 ⟨gp, rfl, hb⟩; replace H := H.joinR hb; clear hb; (try simp only [List.cons_append, List.nil_append] at H)) | (go_at_call 12; (with_reducible refine (C6.out k _ _ _ H (H.lies (by repeat (first | exact List.mem_cons_self | apply List.mem_cons_of_mem | apply List.mem_append_right)) (Nat.le_refl _))).mono ?_); rintro e w1 ⟨vf, tl, rfl, RO, hb⟩; replace H := H.joinR hb; clear hb; (try simp only [List.cons_append, List.nil_append] at H); obtain ⟨gv, capv, csv, rfl, rfl, hcap, hsz, hcs⟩ := RO.some_ (by omega); have LF : Lies _ (.slice (some ⟨gv, 0, none⟩) 40 capv) 40 (fdF h r k) := ⟨_, capv, gv, 0, rfl, Reads.ofCells H (by repeat (first | exact List.mem_cons_self | apply List.mem_cons_of_mem | apply List.mem_append_right)) (fun i hi => hcs i (by omega))⟩; have HLF := Lib.hid LF; clear LF hcs RO) | (go_at_call 17; (with_reducible refine (C3.out k _ _ HLF.out).mono ?_); rintro e w1 ⟨rfl, rfl⟩) | (go_at_call 18; (with_reducible refine (D4.out _ _ H.below HLF.out).mono ?_); rintro e w1 ⟨rfl, rfl⟩) | (go_at_call 18; (with_reducible refine (D5.out _ _ HLF.out).mono ?_); rintro e w1 ⟨rfl, rfl⟩))
        go_roundw
        case rel => exact ⟨k + 1, best, bc, be, by omega, by omega, by go_num, rfl, rfl, rfl, HN, HW, H.sub (List.Sublist.cons_cons _ (List.nil_sublist _))⟩
        case measure => simp [intOf]; omega
      · have hc' : 0 < C := by omega
        have d1 := le_no hc'
        have d0 := le_no (hpos hc')
        by_cases hz : be = 0
        · have HN := Lib.hid (I3.out hc' (.inl hz))
          have d2 : (be == 0) = true := by simp [hz]
          clear I1 I2 I3 hcc hc' hz hpos
          go_wp2_with (first | ((refine wpList_on (o := ⟨_, .load 32 _, _, _, _, _⟩) rfl (fun K hK => ?_)); refine wp_load_all H 32 _ rfl rfl (by repeat (first | exact List.mem_cons_self | apply List.mem_cons_of_mem | apply List.mem_append_right)) (by kernel_rfl) ?_; refine hK _ _ ?_; clear hK K) | (go_at_call 15; (with_reducible refine (Past_any h k _ hk0 (by omega)).mono ?_); rintro e w1 ⟨gp, rfl, hb⟩; replace H := H.joinR hb; clear hb; (try simp only [List.cons_append, List.nil_append] at H)) | (go_at_call 12; (with_reducible refine (C6.out k _ _ _ H (H.lies (by repeat (first | exact List.mem_cons_self | apply List.mem_cons_of_mem | apply List.mem_append_right)) (Nat.le_refl _))).mono ?_); rintro e w1 ⟨vf, tl, rfl, RO, hb⟩; replace H := H.joinR hb; clear hb; (try simp only [List.cons_append, List.nil_append] at H); obtain ⟨gv, capv, csv, rfl, rfl, hcap, hsz, hcs⟩ := RO.some_ (by omega); have LF : Lies _ (.slice (some ⟨gv, 0, none⟩) 40 capv) 40 (fdF h r k) := ⟨_, capv, gv, 0, rfl, Reads.ofCells H (by repeat (first | exact List.mem_cons_self | apply List.mem_cons_of_mem | apply List.mem_append_right)) (fun i hi => hcs i (by omega))⟩; have HLF := Lib.hid LF; clear LF hcs RO) | (go_at_call 17; (with_reducible refine (C3.out k _ _ HLF.out).mono ?_); rintro e w1 ⟨rfl, rfl⟩) | (go_at_call 18; (with_reducible refine (D4.out _ _ H.below HLF.out).mono ?_); rintro e w1 ⟨rfl, rfl⟩) | (go_at_call 18; (with_reducible refine (D5.out _ _ HLF.out).mono ?_); rintro e w1 ⟨rfl, rfl⟩))
          go_roundw
          case rel => exact ⟨k + 1, k, C, E, by omega, by omega, by go_num, rfl, rfl, rfl, HN, HWn, H.sub (List.Sublist.cons_cons _ (List.nil_sublist _))⟩
          case measure => simp [intOf]; omega
        · have d2 : (be == 0) = false := by simp [hz]
          cases tb
          · have HN := Lib.hid (I2.out hz rfl)
            clear I1 I2 I3 hcc hc' hz hpos
            go_wp2_with (first | ((refine wpList_on (o := ⟨_, .load 32 _, _, _, _, _⟩) rfl (fun K hK => ?_)); refine wp_load_all H 32 _ rfl rfl (by repeat (first | exact List.mem_cons_self | apply List.mem_cons_of_mem | apply List.mem_append_right)) (by kernel_rfl) ?_; refine hK _ _ ?_; clear hK K) | (go_at_call 15; (with_reducible refine (Past_any h k _ hk0 (by omega)).mono ?_); rintro e w1 ⟨gp, rfl, hb⟩; replace H := H.joinR hb; clear hb; (try simp only [List.cons_append, List.nil_append] at H)) | (go_at_call 12; (with_reducible refine (C6.out k _ _ _ H (H.lies (by repeat (first | exact List.mem_cons_self | apply List.mem_cons_of_mem | apply List.mem_append_right)) (Nat.le_refl _))).mono ?_); rintro e w1 ⟨vf, tl, rfl, RO, hb⟩; replace H := H.joinR hb; clear hb; (try simp only [List.cons_append, List.nil_append] at H); obtain ⟨gv, capv, csv, rfl, rfl, hcap, hsz, hcs⟩ := RO.some_ (by omega); have LF : Lies _ (.slice (some ⟨gv, 0, none⟩) 40 capv) 40 (fdF h r k) := ⟨_, capv, gv, 0, rfl, Reads.ofCells H (by repeat (first | exact List.mem_cons_self | apply List.mem_cons_of_mem | apply List.mem_append_right)) (fun i hi => hcs i (by omega))⟩; have HLF := Lib.hid LF; clear LF hcs RO) | (go_at_call 17; (with_reducible refine (C3.out k _ _ HLF.out).mono ?_); rintro e w1 ⟨rfl, rfl⟩) | (go_at_call 18; (with_reducible refine (D4.out _ _ H.below HLF.out).mono ?_); rintro e w1 ⟨rfl, rfl⟩) | (go_at_call 18; (with_reducible refine (D5.out _ _ HLF.out).mono ?_); rintro e w1 ⟨rfl, rfl⟩) | (go_at_call 10; (with_reducible refine (CB.out _).mono ?_); rintro e w1 ⟨rfl, hb⟩; replace H := H.callee hb; clear hb))
            go_roundw
            case rel => exact ⟨k + 1, best, bc, be, by omega, by omega, by go_num, rfl, rfl, rfl, HN, HW, H.sub (List.Sublist.cons_cons _ (List.nil_sublist _))⟩
            case measure => simp [intOf]; omega
          · have HN := Lib.hid (I3.out hc' (.inr rfl))
            clear I1 I2 I3 hcc hc' hz hpos
            go_wp2_with (first | ((refine wpList_on (o := ⟨_, .load 32 _, _, _, _, _⟩) rfl (fun K hK => ?_)); refine wp_load_all H 32 _ rfl rfl (by repeat (first | exact List.mem_cons_self | apply List.mem_cons_of_mem | apply List.mem_append_right)) (by kernel_rfl) ?_; refine hK _ _ ?_; clear hK K) | (go_at_call 15; (with_reducible refine (Past_any h k _ hk0 (by omega)).mono ?_); rintro e w1 ⟨gp, rfl, hb⟩; replace H := H.joinR hb; clear hb; (try simp only [List.cons_append, List.nil_append] at H)) | (go_at_call 12; (with_reducible refine (C6.out k _ _ _ H (H.lies (by repeat (first | exact List.mem_cons_self | apply List.mem_cons_of_mem | apply List.mem_append_right)) (Nat.le_refl _))).mono ?_); rintro e w1 ⟨vf, tl, rfl, RO, hb⟩; replace H := H.joinR hb; clear hb; (try simp only [List.cons_append, List.nil_append] at H); obtain ⟨gv, capv, csv, rfl, rfl, hcap, hsz, hcs⟩ := RO.some_ (by omega); have LF : Lies _ (.slice (some ⟨gv, 0, none⟩) 40 capv) 40 (fdF h r k) := ⟨_, capv, gv, 0, rfl, Reads.ofCells H (by repeat (first | exact List.mem_cons_self | apply List.mem_cons_of_mem | apply List.mem_append_right)) (fun i hi => hcs i (by omega))⟩; have HLF := Lib.hid LF; clear LF hcs RO) | (go_at_call 17; (with_reducible refine (C3.out k _ _ HLF.out).mono ?_); rintro e w1 ⟨rfl, rfl⟩) | (go_at_call 18; (with_reducible refine (D4.out _ _ H.below HLF.out).mono ?_); rintro e w1 ⟨rfl, rfl⟩) | (go_at_call 18; (with_reducible refine (D5.out _ _ HLF.out).mono ?_); rintro e w1 ⟨rfl, rfl⟩) | (go_at_call 10; (with_reducible refine (CB.out _).mono ?_); rintro e w1 ⟨rfl, hb⟩; replace H := H.callee hb; clear hb))
            go_roundw
            case rel => exact ⟨k + 1, k, C, E, by omega, by omega, by go_num, rfl, rfl, rfl, HN, HWn, H.sub (List.Sublist.cons_cons _ (List.nil_sublist _))⟩
            case measure => simp [intOf]; omega
    · obtain rfl : k = 80 := by omega
      go_wp2
      refine bodyPost_ret (results_four rfl _ _) rfl ⟨best, bc, be, rfl, HI.out, HW.out.1, HW.out.2, H.below⟩
set_option maxHeartbeats 6400000 in
set_option maxRecDepth 100000 in
theorem pickBest_in (h0 h r t : Nat → Int) (P P' : Option Addr) (n cap n' cap' K : Nat) (x : Int) (w : World) (hT : Gains w) (hh : ∀ i, In16 (h i)) (hr : ∀ i, In16 (r i)) (ht : ∀ i, In16 (t i)) (hK : 20 ≤ K ∧ K ≤ 79)
    (c0 : ∀ w : World, Calls Tryd.prog 11 #[.agg (row 80 h0)] w fun e w' => e = .returned (.agg (row 80 h)) ∧ Below w.heap.size w w')
    (c1 : ∀ w' : World, Below w.heap.size w w' → Calls Tryd.prog 5 #[.slice P n cap, .int .i64 40] w' fun e w'' => ∃ g, e = .returned (.slice (some ⟨g, 0, none⟩) 40 40) ∧ Has w' w'' [(g, 3, row 40 r)])
    (c2 : ∀ w' : World, Below w.heap.size w w' → Calls Tryd.prog 5 #[.slice P' n' cap', .int .i64 40] w' fun e w'' => ∃ g, e = .returned (.slice (some ⟨g, 0, none⟩) 40 40) ∧ Has w' w'' [(g, 3, row 40 t)])
    (c3 : ∀ w : World, Calls Tryd.prog 8 #[.int .i64 x, .int .i64 60] w fun e w' => e = .returned (.int .i64 ((K : Int) - 20)) ∧ w = w') :
    Calls Tryd.prog 4 #[.agg (row 80 h0), .slice P n cap, .slice P' n' cap', .int .i64 x] w fun e w' => e = .returned (.bool true) ∧ Below w.heap.size w w' := by
  have H := Has.start w
  have C0 := Lib.hid c0
  have C1 := Lib.hid c1
  have C2 := Lib.hid c2
  have C3 := Lib.hid c3
  have HH := Lib.hid hh
  have HR := Lib.hid hr
  have HT := Lib.hid ht
  clear c0 c1 c2 c3 hh hr ht
  go_enter Tryd.func4, Tryd.ntmps4
  go_wp2_with (first | ((refine wpList_on (o := ⟨_, .box _ (.tmp 0), _, _, _, _⟩) rfl (fun K hK => ?_)); refine wp_box H _ (.tmp 0) rfl (v := .agg _) rfl ?_; clear H; intro u gh H; refine hK _ _ ?_; clear hK K; try simp only [Value.cells, List.cons_append, List.nil_append] at H) | ((refine wpList_on (o := ⟨_, .box _ (.tmp 1), _, _, _, _⟩) rfl (fun K hK => ?_)); refine wp_box H _ (.tmp 1) rfl (v := .slice _ _ _) rfl ?_; clear H; intro u gb H; refine hK _ _ ?_; clear hK K; try simp only [Value.cells, List.cons_append, List.nil_append] at H))
  refine wp_region_ordB [] [] (fun w' => Has w w' [(gb, 22, #[.slice P n cap]), (gh, 32, row 80 h0)]) [] [[0, 2, 1, 3, 4, 5, 6, 7, 8]] (by kernel_rfl) (by kernel_rfl) (by kernel_rfl) ?_; replace H := H.drew; generalize World.drew _ = u at *; simp only [List.forall_mem_cons, List.not_mem_nil, false_imp_iff, implies_true, and_true]; (repeat' refine And.intro ?_ ?_)
  repeat (first | (refine sq_load_all (o := ⟨_, .load 32 _, _, _, _, _⟩) 32 _ rfl rfl rfl rfl rfl (H.sub (by repeat (first | exact List.Sublist.refl _ | exact List.nil_sublist _ | apply List.Sublist.cons_cons | apply List.Sublist.cons | refine List.Sublist.trans ?_ (List.sublist_append_right _ _)))) (by repeat (first | exact List.mem_cons_self | apply List.mem_cons_of_mem | apply List.mem_append_right)) (by kernel_rfl) ?_; simp only [Act.put, List.setIfInBounds_toArray, List.set_cons_zero, List.set_cons_succ]) | (refine sq_load_one (o := ⟨_, .load 22 _, _, _, _, _⟩) 22 _ rfl rfl rfl rfl rfl (H.sub (List.Sublist.refl _)) (by repeat (first | exact List.mem_cons_self | apply List.mem_cons_of_mem | apply List.mem_append_right)) (by kernel_rfl) rfl ?_; simp only [Act.put, List.setIfInBounds_toArray, List.set_cons_zero, List.set_cons_succ]) | (refine sq_keep (o := ⟨_, .call _, _, _, _, _⟩) rfl rfl rfl (fun K hK => ?_); go_simp; (go_at_call 11; (with_reducible refine (C0.out _).mono ?_); rintro e u ⟨rfl, hb⟩; replace H := H.callee hb; clear hb); refine hK _ _ (H.sub (by repeat (first | exact List.Sublist.refl _ | exact List.nil_sublist _ | apply List.Sublist.cons_cons | apply List.Sublist.cons | refine List.Sublist.trans ?_ (List.sublist_append_right _ _)))) ?_; clear hK K; try simp only [Act.put, List.setIfInBounds_toArray, List.set_cons_zero, List.set_cons_succ]) | (refine sq_keep (o := ⟨_, .call _, _, _, _, _⟩) rfl rfl rfl (fun K hK => ?_); go_simp; (go_at_call 5; (with_reducible refine (C1.out _ H.below).mono ?_); rintro e u ⟨gr, rfl, hb⟩; replace H := H.joinR hb; clear hb; (try simp only [List.cons_append, List.nil_append] at H)); refine hK _ _ (H.sub (by repeat (first | exact List.Sublist.refl _ | exact List.nil_sublist _ | apply List.Sublist.cons_cons | apply List.Sublist.cons | refine List.Sublist.trans ?_ (List.sublist_append_right _ _)))) ?_; clear hK K; try simp only [Act.put, List.setIfInBounds_toArray, List.set_cons_zero, List.set_cons_succ]) | (refine sq_keep (o := ⟨_, .call _, _, _, _, _⟩) rfl rfl rfl (fun K hK => ?_); go_simp; (go_at_call 5; (with_reducible refine (C2.out _ H.below).mono ?_); rintro e u ⟨gt, rfl, hb⟩; replace H := H.joinR hb; clear hb; (try simp only [List.cons_append, List.nil_append] at H)); refine hK _ _ (H.sub (by repeat (first | exact List.Sublist.refl _ | exact List.nil_sublist _ | apply List.Sublist.cons_cons | apply List.Sublist.cons | refine List.Sublist.trans ?_ (List.sublist_append_right _ _)))) ?_; clear hK K; try simp only [Act.put, List.setIfInBounds_toArray, List.set_cons_zero, List.set_cons_succ]) | (refine sq_eff (o := ⟨_, .store 32 _ _, _, _, _, _⟩) rfl rfl rfl (fun K hK => ?_); refine wp_store_all (l1 := [_]) H 32 _ _ rfl rfl rfl (by kernel_rfl) (by simp [row_size]) (row_one _ _) ?_; clear H; intro u H; (try simp only [Value.cells, List.cons_append, List.nil_append] at H); refine hK _ _ ?_; clear hK K; simp only [Act.put, List.setIfInBounds_toArray, List.set_cons_zero, List.set_cons_succ]) | (refine sq_eff (o := ⟨_, .store 22 _ _, _, _, _, _⟩) rfl rfl rfl (fun K hK => ?_); refine wp_store_one (l1 := []) H 22 _ _ rfl rfl rfl (by kernel_rfl) (by simp) rfl ?_; clear H; intro u H; (try simp only [List.cons_append, List.nil_append] at H); refine hK _ _ ?_; clear hK K; simp only [Act.put, List.setIfInBounds_toArray, List.set_cons_zero, List.set_cons_succ]) | (refine sq_free (o := ⟨_, _, _, _, _, _⟩) (v := ?_) rfl rfl rfl ?_ ?_; rotate_left; (intro w'; go_simp; try with_reducible rfl); simp only [Act.put, List.setIfInBounds_toArray, List.set_cons_zero, List.set_cons_succ]))
  refine sq_nil ?_
  clear C0 C1 C2
  go_wp2_with fail
  refine wp_region_ordB [] [] (fun w' => Has w w' [(gb, 22, #[.slice (some ⟨gr, 0, none⟩) 40 40]), (gh, 32, row 80 h), (gr, 3, row 40 r), (gt, 3, row 40 t)]) [] [[0, 1, 2, 3, 4, 5, 6, 7, 8, 9, 10, 11, 12, 13]] (by kernel_rfl) (by kernel_rfl) (by kernel_rfl) ?_; replace H := H.drew; generalize World.drew _ = u at *; simp only [List.forall_mem_cons, List.not_mem_nil, false_imp_iff, implies_true, and_true]; (repeat' refine And.intro ?_ ?_)
  repeat (first | (refine sq_load_all (o := ⟨_, .load 32 _, _, _, _, _⟩) 32 _ rfl rfl rfl rfl rfl (H.sub (by repeat (first | exact List.Sublist.refl _ | exact List.nil_sublist _ | apply List.Sublist.cons_cons | apply List.Sublist.cons | refine List.Sublist.trans ?_ (List.sublist_append_right _ _)))) (by repeat (first | exact List.mem_cons_self | apply List.mem_cons_of_mem | apply List.mem_append_right)) (by kernel_rfl) ?_; simp only [Act.put, List.setIfInBounds_toArray, List.set_cons_zero, List.set_cons_succ]) | (refine sq_keep (o := ⟨_, .call { callee := .builtin .append, args := #[_, _], argTypes := #[22, 22] }, _, _, _, _⟩) rfl rfl rfl (fun K hK => ?_); refine wp_append_nil (t := 22) (e := 3) (m := 40) (f := t) H _ _ rfl rfl rfl (by kernel_rfl) (Lies.from_ (e := 3) (by kernel_rfl) (H.lies (by repeat (first | exact List.mem_cons_self | apply List.mem_cons_of_mem | apply List.mem_append_right)) (Nat.le_refl _))) (by omega) ?_; (intro vc u tlc ROc H2; replace H := H2; clear H2; (try simp only [List.cons_append, List.nil_append, List.append_assoc] at H); refine hK _ _ (H.sub (by repeat (first | exact List.Sublist.refl _ | exact List.nil_sublist _ | apply List.Sublist.cons_cons | apply List.Sublist.cons | refine List.Sublist.trans ?_ (List.sublist_append_right _ _)))) ?_; clear hK K; simp only [Act.put, List.setIfInBounds_toArray, List.set_cons_zero, List.set_cons_succ])) | (refine sq_free (o := ⟨_, _, _, _, _, _⟩) (v := ?_) rfl rfl rfl ?_ ?_; rotate_left; (intro w'; go_simp; try with_reducible rfl); simp only [Act.put, List.setIfInBounds_toArray, List.set_cons_zero, List.set_cons_succ]))
  refine sq_keep (o := ⟨_, .call _, _, _, _, _⟩) rfl rfl rfl (fun K hK => ?_)
  go_simp
  go_at_call 14
  refine (Pick_any h t r gb (rv := .slice (some ⟨gr, 0, none⟩) 40 40) HH.out (fun i _ => HR.out i) (fun i _ => HT.out i) (cell_of H (by repeat (first | exact List.mem_cons_self | apply List.mem_cons_of_mem | apply List.mem_append_right))) (H.lies (by repeat (first | exact List.mem_cons_self | apply List.mem_cons_of_mem | apply List.mem_append_right)) (Nat.le_refl _)) (ROc.lies H (by repeat (first | exact List.Sublist.refl _ | exact List.sublist_append_left _ _ | exact List.sublist_append_right _ _ | apply List.Sublist.cons | refine List.Sublist.trans ?_ (List.sublist_append_right _ _))))).mono ?_
  rintro e u ⟨best, bc, be, rfl, hbest, hw1, hw2, hb⟩
  replace H := H.callee hb
  clear hb
  refine hK _ _ (H.sub (by repeat (first | exact List.Sublist.refl _ | exact List.nil_sublist _ | apply List.Sublist.cons_cons | apply List.Sublist.cons | refine List.Sublist.trans ?_ (List.sublist_append_right _ _)))) ?_; clear hK K
  try simp only [Act.put, List.setIfInBounds_toArray, List.set_cons_zero, List.set_cons_succ]
  repeat (refine sq_free (o := ⟨_, _, _, _, _, _⟩) (v := ?_) rfl rfl rfl ?_ ?_; rotate_left; (intro w'; go_simp; try with_reducible rfl); simp only [Act.put, List.setIfInBounds_toArray, List.set_cons_zero, List.set_cons_succ])
  refine sq_nil ?_
  obtain ⟨l1, l2, l3, l4⟩ := best_lag hbest (by omega)
  have d1 := lt_no (show (20 : Int) ≤ best by omega)
  have d2 := lt_no (show (best : Int) ≤ 79 by omega)
  have d3 := lt_no l3
  have d4 := lt_no l4
  have lb0 : 20 ≤ best := by omega
  have lb1 : best ≤ 79 := by omega
  clear l1 l2 l3 l4 ROc
  go_wp2_with (go_at_call 7; (with_reducible refine (hears_any _ (hT.has H)).mono ?_); rintro e w1 ⟨rfl, hb⟩; replace H := H.callee hb; clear hb)
  clear d1 d2 d3 d4
  have sK : IntKind.i64.wrap (20 + ((K : Int) - 20)) = (K : Int) := by rw [IntWalk.i64_in _ (by omega)]; omega
  have H3 : Has w _ [(gb, 22, #[.slice (some ⟨gr, 0, none⟩) 40 40]), (gh, 32, row 80 h), (gr, 3, row 40 r), (gt, 3, row 40 t)] := H.sub (List.Sublist.cons_cons _ (List.Sublist.cons_cons _ (List.Sublist.cons_cons _ (List.Sublist.cons_cons _ (List.nil_sublist _)))))
  clear H
  replace H := H3
  clear H3
  refine wp_region_ordB [] [] (fun w' => Has w w' [(gb, 22, #[.slice (some ⟨gr, 0, none⟩) 40 40]), (gh, 32, row 80 h), (gr, 3, row 40 r), (gt, 3, row 40 t)]) [] [[0, 1, 2, 3, 4, 5, 6, 7, 8, 9]] (by kernel_rfl) (by kernel_rfl) (by kernel_rfl) ?_; replace H := H.drew; generalize World.drew _ = u at *; simp only [List.forall_mem_cons, List.not_mem_nil, false_imp_iff, implies_true, and_true]; (repeat' refine And.intro ?_ ?_)
  repeat (first | (refine sq_load_all (o := ⟨_, .load 32 _, _, _, _, _⟩) 32 _ rfl rfl rfl rfl rfl (H.sub (by repeat (first | exact List.Sublist.refl _ | exact List.nil_sublist _ | apply List.Sublist.cons_cons | apply List.Sublist.cons | refine List.Sublist.trans ?_ (List.sublist_append_right _ _)))) (by repeat (first | exact List.mem_cons_self | apply List.mem_cons_of_mem | apply List.mem_append_right)) (by kernel_rfl) ?_; simp only [Act.put, List.setIfInBounds_toArray, List.set_cons_zero, List.set_cons_succ]) | (refine sq_free (o := ⟨_, _, _, _, _, _⟩) (v := ?_) rfl rfl rfl ?_ ?_; rotate_left; (intro w'; go_simp; try with_reducible rfl); simp only [Act.put, List.setIfInBounds_toArray, List.set_cons_zero, List.set_cons_succ]))
  refine sq_keep (o := ⟨_, .call _, _, _, _, _⟩) rfl rfl rfl (fun Kx hKx => ?_)
  go_simp
  go_at_call 8
  refine (C3.out _).mono ?_
  rintro e u ⟨rfl, rfl⟩
  refine hKx _ _ (H.sub (List.Sublist.refl _)) ?_
  clear hKx Kx
  try simp only [Act.put, List.setIfInBounds_toArray, List.set_cons_zero, List.set_cons_succ]
  repeat (refine sq_free (o := ⟨_, _, _, _, _, _⟩) (v := ?_) rfl rfl rfl ?_ ?_; rotate_left; (intro w'; go_simp; try with_reducible rfl); simp only [Act.put, List.setIfInBounds_toArray, List.set_cons_zero, List.set_cons_succ])
  refine sq_keep (o := ⟨_, .call _, _, _, _, _⟩) rfl rfl rfl (fun Kx hKx => ?_)
  go_simp
  go_at_call 15
  refine (Past_any h K _ hK.1 hK.2).mono ?_
  rintro e u ⟨gp, rfl, hb⟩; replace H := H.joinR hb; clear hb; (try simp only [List.cons_append, List.nil_append, List.append_assoc] at H)
  refine hKx _ _ (H.sub (List.Sublist.cons_cons _ (List.Sublist.cons_cons _ (List.Sublist.cons_cons _ (List.Sublist.cons_cons _ (List.nil_sublist _)))))) ?_
  clear hKx Kx
  try simp only [Act.put, List.setIfInBounds_toArray, List.set_cons_zero, List.set_cons_succ]
  repeat (refine sq_free (o := ⟨_, _, _, _, _, _⟩) (v := ?_) rfl rfl rfl ?_ ?_; rotate_left; (intro w'; go_simp; try with_reducible rfl); simp only [Act.put, List.setIfInBounds_toArray, List.set_cons_zero, List.set_cons_succ])
  refine sq_nil ?_
  clear C3
  go_wp2_with fail
  refine (folder_any r (pastF h K) gb (rv := .slice (some ⟨gr, 0, none⟩) 40 40) (fun i _ => HR.out i) (fun i _ => HH.out _) (cell_of H (by repeat (first | exact List.mem_cons_self | apply List.mem_cons_of_mem | apply List.mem_append_right))) (H.lies (by repeat (first | exact List.mem_cons_self | apply List.mem_cons_of_mem | apply List.mem_append_right)) (Nat.le_refl _)) (H.lies (by repeat (first | exact List.mem_cons_self | apply List.mem_cons_of_mem | apply List.mem_append_right)) (Nat.le_refl _))).mono ?_
  rintro e w1 ⟨v1, tl1, rfl, RO1, hb⟩; replace H := H.joinR hb; clear hb; (try simp only [List.cons_append, List.nil_append, List.append_assoc] at H)
  go_wp2_with fail
  refine (keepDot_l (n := 40) (by omega) (fun i _ => HT.out i) (fun i _ => fd_in h r K i) (H.lies (by repeat (first | exact List.mem_cons_self | apply List.mem_cons_of_mem | apply List.mem_append_right)) (Nat.le_refl _)) (RO1.lies H (by repeat (first | exact List.Sublist.refl _ | exact List.sublist_append_left _ _ | exact List.sublist_append_right _ _ | apply List.Sublist.cons | refine List.Sublist.trans ?_ (List.sublist_append_right _ _))))).mono ?_
  rintro e w1 ⟨rfl, hb⟩; replace H := H.callee hb; clear hb
  go_wp2_with fail
  refine (keepDot_l (n := 40) (by omega) (fun i _ => fd_in h r K i) (fun i _ => fd_in h r K i) (RO1.lies H (by repeat (first | exact List.Sublist.refl _ | exact List.sublist_append_left _ _ | exact List.sublist_append_right _ _ | apply List.Sublist.cons | refine List.Sublist.trans ?_ (List.sublist_append_right _ _)))) (RO1.lies H (by repeat (first | exact List.Sublist.refl _ | exact List.sublist_append_left _ _ | exact List.sublist_append_right _ _ | apply List.Sublist.cons | refine List.Sublist.trans ?_ (List.sublist_append_right _ _))))).mono ?_
  rintro e w1 ⟨rfl, hb⟩; replace H := H.callee hb; clear hb
  have bK1 := (dot_bd (a := t) (b := fdF h r K) (n := 40) (fun i _ => HT.out i) (fun i _ => fd_in h r K i)).2
  have bK2 := (dot_bd (a := fdF h r K) (b := fdF h r K) (n := 40) (fun i _ => fd_in h r K i) (fun i _ => fd_in h r K i)).2
  have hlaw : dotF t (fdF h r K) 40 ≤ 0 ∨ (0 < dotF t (fdF h r K) 40 ∧ betterB (dotF t (fdF h r K) 40) (dotF (fdF h r K) (fdF h r K) 40) bc be = false) := by
    by_cases h0 : dotF t (fdF h r K) 40 ≤ 0
    · exact .inl h0
    · rcases hbest with ⟨_, _, _, h4⟩ | ⟨_, _, h3, h4, h5, _, h7⟩
      · exact absurd (h4 K hK.1 (by omega)) h0
      · exact .inr ⟨by omega, h7 K hK.1 (by omega) (by show 0 < dotF t (fdF h r K) 40; omega)⟩
  have hend : (bc = 0 ∧ be = 0) ∨ (be ≠ 0 ∧ bc = dotF t (fdF h r best) 40 ∧ be = dotF (fdF h r best) (fdF h r best) 40) := by
    rcases hbest with ⟨h1, h2, _, _⟩ | ⟨_, _, h3, h4, _, h6, _⟩
    · exact .inl ⟨h1, h2⟩
    · exact .inr ⟨by omega, h3, h4⟩
  have kb := fun u : World => Better_any (dotF t (fdF h r K) 40) (dotF (fdF h r K) (fdF h r K) 40) bc be u (by omega) (by omega) (by omega) (by omega)
  have HEnd := Lib.hid hend
  clear hbest hend bK1 bK2
  have X1 : fdF h r K = foldOut r (pastF h K) := rfl
  rw [X1] at hlaw kb
  clear X1
  generalize betterB (dotF t (foldOut r (pastF h K)) 40) (dotF (foldOut r (pastF h K)) (foldOut r (pastF h K)) 40) bc be = tb at *
  generalize dotF t (foldOut r (pastF h K)) 40 = C at *
  generalize dotF (foldOut r (pastF h K)) (foldOut r (pastF h K)) 40 = E at *
  have KB := Lib.hid kb
  clear kb
  rcases hlaw with h0 | ⟨h0, h1⟩
  · have d1 := lt_no h0
    clear h0 KB
    go_wp2_with ((refine wpList_on (o := ⟨_, .load 32 _, _, _, _, _⟩) rfl (fun K hK => ?_)); refine wp_load_all H 32 _ rfl rfl (by repeat (first | exact List.mem_cons_self | apply List.mem_cons_of_mem | apply List.mem_append_right)) (by kernel_rfl) ?_; refine hK _ _ ?_; clear hK K)
    refine (Past_any h best _ lb0 lb1).mono ?_
    rintro e w1 ⟨gp2, rfl, hb⟩; replace H := H.joinR hb; clear hb; (try simp only [List.cons_append, List.nil_append, List.append_assoc] at H)
    go_wp2_with fail
    refine (folder_any r (pastF h best) gb (rv := .slice (some ⟨gr, 0, none⟩) 40 40) (fun i _ => HR.out i) (fun i _ => HH.out _) (cell_of H (by repeat (first | exact List.mem_cons_self | apply List.mem_cons_of_mem | apply List.mem_append_right))) (H.lies (by repeat (first | exact List.mem_cons_self | apply List.mem_cons_of_mem | apply List.mem_append_right)) (Nat.le_refl _)) (H.lies (by repeat (first | exact List.mem_cons_self | apply List.mem_cons_of_mem | apply List.mem_append_right)) (Nat.le_refl _))).mono ?_
    rintro e w1 ⟨v2, tl2, rfl, RO2, hb⟩; replace H := H.joinR hb; clear hb; (try simp only [List.cons_append, List.nil_append, List.append_assoc] at H)
    rcases HEnd.out with ⟨h1, h2⟩ | ⟨h1, h2, h3⟩
    · subst h1 h2
      go_wp2_with fail
      go_ret
      exact ⟨rfl, H.below⟩
    · have d2 : (be == 0) = false := by simp [h1]
      have d3 : (bc == dotF t (foldOut r (pastF h best)) 40) = true := by rw [h2]; simp
      have d4 : (be == dotF (foldOut r (pastF h best)) (foldOut r (pastF h best)) 40) = true := by rw [h3]; simp
      clear h1 h2 h3
      go_wp2_with fail
      refine (keepDot_l (n := 40) (by omega) (fun i _ => HT.out i) (fun i _ => fd_in h r best i) (H.lies (by repeat (first | exact List.mem_cons_self | apply List.mem_cons_of_mem | apply List.mem_append_right)) (Nat.le_refl _)) (RO2.lies H (by repeat (first | exact List.Sublist.refl _ | exact List.sublist_append_left _ _ | exact List.sublist_append_right _ _ | apply List.Sublist.cons | refine List.Sublist.trans ?_ (List.sublist_append_right _ _))))).mono ?_
      rintro e w1 ⟨rfl, hb⟩; replace H := H.callee hb; clear hb
      go_wp2_with fail
      refine (keepDot_l (n := 40) (by omega) (fun i _ => fd_in h r best i) (fun i _ => fd_in h r best i) (RO2.lies H (by repeat (first | exact List.Sublist.refl _ | exact List.sublist_append_left _ _ | exact List.sublist_append_right _ _ | apply List.Sublist.cons | refine List.Sublist.trans ?_ (List.sublist_append_right _ _)))) (RO2.lies H (by repeat (first | exact List.Sublist.refl _ | exact List.sublist_append_left _ _ | exact List.sublist_append_right _ _ | apply List.Sublist.cons | refine List.Sublist.trans ?_ (List.sublist_append_right _ _))))).mono ?_
      rintro e w1 ⟨rfl, hb⟩; replace H := H.callee hb; clear hb
      go_wp2_with fail
      go_ret
      exact ⟨rfl, H.below⟩
  · have d1 := lt_yes h0
    subst h1
    clear h0
    go_wp2_with (first | ((refine wpList_on (o := ⟨_, .load 32 _, _, _, _, _⟩) rfl (fun K hK => ?_)); refine wp_load_all H 32 _ rfl rfl (by repeat (first | exact List.mem_cons_self | apply List.mem_cons_of_mem | apply List.mem_append_right)) (by kernel_rfl) ?_; refine hK _ _ ?_; clear hK K) | (go_at_call 10; (with_reducible refine (KB.out _).mono ?_); rintro e w1 ⟨rfl, hb⟩; replace H := H.callee hb; clear hb))
    refine (Past_any h best _ lb0 lb1).mono ?_
    rintro e w1 ⟨gp2, rfl, hb⟩; replace H := H.joinR hb; clear hb; (try simp only [List.cons_append, List.nil_append, List.append_assoc] at H)
    go_wp2_with fail
    refine (folder_any r (pastF h best) gb (rv := .slice (some ⟨gr, 0, none⟩) 40 40) (fun i _ => HR.out i) (fun i _ => HH.out _) (cell_of H (by repeat (first | exact List.mem_cons_self | apply List.mem_cons_of_mem | apply List.mem_append_right))) (H.lies (by repeat (first | exact List.mem_cons_self | apply List.mem_cons_of_mem | apply List.mem_append_right)) (Nat.le_refl _)) (H.lies (by repeat (first | exact List.mem_cons_self | apply List.mem_cons_of_mem | apply List.mem_append_right)) (Nat.le_refl _))).mono ?_
    rintro e w1 ⟨v2, tl2, rfl, RO2, hb⟩; replace H := H.joinR hb; clear hb; (try simp only [List.cons_append, List.nil_append, List.append_assoc] at H)
    rcases HEnd.out with ⟨h1, h2⟩ | ⟨h1, h2, h3⟩
    · subst h1 h2
      go_wp2_with fail
      go_ret
      exact ⟨rfl, H.below⟩
    · have d2 : (be == 0) = false := by simp [h1]
      have d3 : (bc == dotF t (foldOut r (pastF h best)) 40) = true := by rw [h2]; simp
      have d4 : (be == dotF (foldOut r (pastF h best)) (foldOut r (pastF h best)) 40) = true := by rw [h3]; simp
      clear h1 h2 h3
      go_wp2_with fail
      refine (keepDot_l (n := 40) (by omega) (fun i _ => HT.out i) (fun i _ => fd_in h r best i) (H.lies (by repeat (first | exact List.mem_cons_self | apply List.mem_cons_of_mem | apply List.mem_append_right)) (Nat.le_refl _)) (RO2.lies H (by repeat (first | exact List.Sublist.refl _ | exact List.sublist_append_left _ _ | exact List.sublist_append_right _ _ | apply List.Sublist.cons | refine List.Sublist.trans ?_ (List.sublist_append_right _ _))))).mono ?_
      rintro e w1 ⟨rfl, hb⟩; replace H := H.callee hb; clear hb
      go_wp2_with fail
      refine (keepDot_l (n := 40) (by omega) (fun i _ => fd_in h r best i) (fun i _ => fd_in h r best i) (RO2.lies H (by repeat (first | exact List.Sublist.refl _ | exact List.sublist_append_left _ _ | exact List.sublist_append_right _ _ | apply List.Sublist.cons | refine List.Sublist.trans ?_ (List.sublist_append_right _ _)))) (RO2.lies H (by repeat (first | exact List.Sublist.refl _ | exact List.sublist_append_left _ _ | exact List.sublist_append_right _ _ | apply List.Sublist.cons | refine List.Sublist.trans ?_ (List.sublist_append_right _ _))))).mono ?_
      rintro e w1 ⟨rfl, hb⟩; replace H := H.callee hb; clear hb
      go_wp2_with fail
      go_ret
      exact ⟨rfl, H.below⟩
theorem pickBest_walk (h : Nat → Int) (P : Option Addr) (n cap : Nat) (ad : Addr) (f : Nat → Int) (hn : n ≤ 9223372036854775807) {w : World} (hR : ReadsA w P n ad f) (P' : Option Addr) (n' cap' : Nat) (ad' : Addr) (f' : Nat → Int) (hn' : n' ≤ 9223372036854775807) (hR' : ReadsA w P' n' ad' f') (x : Int) (hT : Gains w) :
    Calls Tryd.prog 4 #[.agg (row 80 h), .slice P n cap, .slice P' n' cap', .int .i64 x] w fun e w' => e = .returned (.bool true) ∧ Below w.heap.size w w' :=
  pickBest_in h (histI h) (listF n f) (listF n' f') P P' n cap n' cap' (20 + x % 60).toNat x w hT (fun i => s16I_bd _) (fun i => listF_bd n f i) (fun i => listF_bd n' f' i) (by omega) (fun w => history_any h w)
    (fun w' hb => lists_any P n cap ad f 40 w' hn (by omega) (by omega) (hR.below hb)) (fun w' hb => lists_any P' n' cap' ad' f' 40 w' hn' (by omega) (by omega) (hR'.below hb))
    (fun w => by have := spot_any x 60 w (by omega) (by omega); rwa [show (((20 + x % 60).toNat : Nat) : Int) - 20 = x % 60 by omega])
end Go.Proofs.YtabplcaeglnalaaDoor
