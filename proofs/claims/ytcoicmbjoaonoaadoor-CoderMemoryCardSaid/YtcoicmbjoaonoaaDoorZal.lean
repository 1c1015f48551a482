/-
  Several texts of this claim, one behind the other: CoderA. No statement is proved here.
-/
import Derived.Test.YtcoicmbjoaonoaaDoorZaf
import Derived.Test.YtcoicmbjoaonoaaDoorZag
import Derived.Test.YtcoicmbjoaonoaaDoorZai
import Derived.Test.YtcoicmbjoaonoaaDoorZaj
import Derived.Test.YtcoicmbjoaonoaaDoorZak
/-
  coder: filter, play, half walked. No statement is proved here.
-/
namespace Go.Proofs.YtcoicmbjoaonoaaDoor
set_option linter.unusedVariables false
set_option linter.unusedSimpArgs false
open Go.RowKit
set_option maxRecDepth 100000
theorem dirM_head (k : Nat → Int) : ∀ m, dirM k m 0 = 16777216
  | 0 => rfl
  | m + 1 => by rw [dirM_succ, if_neg (by omega), dirM_head k m]
theorem dirOut_head (k : Nat → Int) : dirOut k 0 = 4096 := by unfold dirOut; rw [dirM_head]; rfl
theorem dirOut_bd (k : Nat → Int) (hk : ∀ i, i < 8 → -32768 < k i ∧ k i < 32768) (i : Nat) (hi : i < 9) : -1048576 ≤ dirOut k i ∧ dirOut k i ≤ 1048576 := by
  have := dirM_70 k hk (m := 8) (by omega) hi
  unfold dirOut; omega
/-- Reflections as they come out of numbers. -/
def Refl31 (k : Nat → Int) : Prop := ∀ i, i < 8 → -31000 ≤ k i ∧ k i ≤ 31000
theorem Refl31.in_ {k : Nat → Int} (h : Refl31 k) : ∀ i, i < 8 → -32768 < k i ∧ k i < 32768 := fun i hi => by have := h i hi; omega
def mixH (was now : Nat → Int) (n : Int) (i : Nat) : Int := mixOne (was i) (now i) n
theorem mixH_31 {was now : Nat → Int} (hw : Refl31 was) (hn : Refl31 now) {n : Int} (h : n = 2 ∨ n = 4) : Refl31 (mixH was now n) := fun i hi => by
  have a := hw i hi
  have b := hn i hi
  have key : ∀ x : Int, -124000 ≤ x → x ≤ 124000 → -31000 ≤ x.tdiv 4 ∧ x.tdiv 4 ≤ 31000 := fun x h1 h2 => by
    rw [Int.tdiv_eq_ediv]
    have hs : Int.sign 4 = 1 := rfl
    rw [hs]
    split <;> omega
  unfold mixH mixOne
  rcases h with rfl | rfl <;> exact key _ (by omega) (by omega)
def filF (was now : Nat → Int) (n : Int) : Nat → Int := dirOut (mixH was now n)
structure FilOk (a : Nat → Int) : Prop where
  head : a 0 = 4096
  bd : ∀ i, i < 9 → -1048576 ≤ a i ∧ a i ≤ 1048576
theorem filF_ok {was now : Nat → Int} (hw : Refl31 was) (hn : Refl31 now) {n : Int} (h : n = 2 ∨ n = 4) : FilOk (filF was now n) := ⟨dirOut_head _, dirOut_bd _ (mixH_31 hw hn h).in_⟩
set_option maxHeartbeats 1600000 in
theorem filter_any (was now : Nat → Int) (h n : Int) (w : World) (hh : h = 0 ∧ n = 2 ∨ h = 1 ∧ n = 4) (hw : Refl31 was) (hn : Refl31 now) :
    Calls Tryd.prog 39 #[.agg (row 8 was), .agg (row 8 now), .int .i64 h] w fun e w' => e = .returned (.agg (row 9 (filF was now n))) ∧ Below w.heap.size w w' := by
  have H := Has.start w
  have hn24 : n = 2 ∨ n = 4 := by omega
  have c1 := Lib.hid (fun w : World => show Calls Tryd.prog 64 #[.agg (row 8 was), .agg (row 8 now), .int .i64 n] w fun e w' => e = .returned (.tuple #[.agg (row 8 (mixH was now n)), .int .i64 0]) ∧ Below w.heap.size w w' from mix_any was now n w (by omega) (by omega) hw.in_ hn.in_)
  have c2 := Lib.hid (fun w : World => show Calls Tryd.prog 48 #[.agg (row 8 (mixH was now n))] w fun e w' => e = .returned (.tuple #[.agg (row 9 (filF was now n)), .int .i64 0]) ∧ Below w.heap.size w w' from direct_any (mixH was now n) w (mixH_31 hw hn hn24).in_)
  clear hw hn hn24
  generalize mixH was now n = k at *
  generalize filF was now n = a at *
  rcases hh with ⟨rfl, rfl⟩ | ⟨rfl, rfl⟩
  all_goals
    go_enter Tryd.func39, Tryd.ntmps39
    go_wp2_with (first | ((refine wpList_on (o := ⟨_, .box _ (.tmp 0), _, _, _, _⟩) rfl (fun K hK => ?_)); (try simp only [Act.put, List.setIfInBounds_toArray, List.set_cons_zero, List.set_cons_succ]); refine wp_box H _ (.tmp 0) rfl (v := .agg _) rfl ?_; clear H; intro u g3 H; refine hK _ _ ?_; clear hK K; try simp only [Value.cells, List.cons_append, List.nil_append] at H) | ((refine wpList_on (o := ⟨_, .box _ (.tmp 1), _, _, _, _⟩) rfl (fun K hK => ?_)); (try simp only [Act.put, List.setIfInBounds_toArray, List.set_cons_zero, List.set_cons_succ]); refine wp_box H _ (.tmp 1) rfl (v := .agg _) rfl ?_; clear H; intro u g4 H; refine hK _ _ ?_; clear hK K; try simp only [Value.cells, List.cons_append, List.nil_append] at H) | (refine wpList_on (o := ⟨some 6, .alloc 77, _, _, _, _⟩) rfl (fun K hK => ?_); refine wp_alloc H 77 rfl (z := (.agg (row 9 fun _ => 0))) (by kernel_rfl) ?_; clear H; intro u g6 H; refine hK _ _ ?_; clear hK K; try simp only [Value.cells, List.cons_append, List.nil_append] at H) | ((refine wpList_on (o := ⟨_, .load 26 _, _, _, _, _⟩) rfl (fun K hK => ?_)); (try simp only [Act.put, List.setIfInBounds_toArray, List.set_cons_zero, List.set_cons_succ]); refine wp_load_all H 26 _ rfl rfl (by repeat (first | exact List.mem_cons_self | apply List.mem_cons_of_mem | apply List.mem_append_right)) (by kernel_rfl) ?_; refine hK _ _ ?_; clear hK K) | (go_at_call 64; (with_reducible refine (c1.out _).mono ?_); rintro e w1 ⟨rfl, hb⟩; replace H := H.callee hb; clear hb) | (refine wpList_on (o := ⟨some 7, .alloc 26, _, _, _, _⟩) rfl (fun K hK => ?_); refine wp_alloc H 26 rfl (z := (.agg (row 8 fun _ => 0))) (by kernel_rfl) ?_; clear H; intro u g7 H; refine hK _ _ ?_; clear hK K; try simp only [Value.cells, List.cons_append, List.nil_append] at H) | ((refine wpList_on (o := ⟨_, .store 26 _ _, _, _, _, _⟩) rfl (fun K hK => ?_)); (try simp only [Act.put, List.setIfInBounds_toArray, List.set_cons_zero, List.set_cons_succ]); refine wp_store_all (l1 := []) H 26 _ _ rfl rfl rfl (by kernel_rfl) (by simp [row_size]) (row_one _ _) ?_; clear H; intro u H; refine hK _ _ ?_; clear hK K; try simp only [Value.cells, List.cons_append, List.nil_append] at H) | (go_at_call 48; (with_reducible refine (c2.out _).mono ?_); rintro e w1 ⟨rfl, hb⟩; replace H := H.callee hb; clear hb) | (refine wpList_on (o := ⟨some 9, .alloc 77, _, _, _, _⟩) rfl (fun K hK => ?_); refine wp_alloc H 77 rfl (z := (.agg (row 9 fun _ => 0))) (by kernel_rfl) ?_; clear H; intro u g9 H; refine hK _ _ ?_; clear hK K; try simp only [Value.cells, List.cons_append, List.nil_append] at H) | ((refine wpList_on (o := ⟨_, .load 77 _, _, _, _, _⟩) rfl (fun K hK => ?_)); (try simp only [Act.put, List.setIfInBounds_toArray, List.set_cons_zero, List.set_cons_succ]); refine wp_load_all H 77 _ rfl rfl (by repeat (first | exact List.mem_cons_self | apply List.mem_cons_of_mem | apply List.mem_append_right)) (by kernel_rfl) ?_; refine hK _ _ ?_; clear hK K) | ((refine wpList_on (o := ⟨_, .store 77 (.tmp 9) _, _, _, _, _⟩) rfl (fun K hK => ?_)); refine wp_store_all (l1 := []) H 77 _ _ rfl rfl rfl (by kernel_rfl) (by simp [row_size]) (row_one _ _) ?_; clear H; intro u H; refine hK _ _ ?_; clear hK K; simp only [List.cons_append, List.nil_append] at H) | ((refine wpList_on (o := ⟨_, .store 77 (.tmp 6) _, _, _, _, _⟩) rfl (fun K hK => ?_)); refine wp_store_all (l1 := [_, _]) H 77 _ _ rfl rfl rfl (by kernel_rfl) (by simp [row_size]) (row_one _ _) ?_; clear H; intro u H; refine hK _ _ ?_; clear hK K; simp only [List.cons_append, List.nil_append] at H))
    refine bodyPost_ret (results_one rfl _ H rfl (by repeat (first | exact List.mem_cons_self | apply List.mem_cons_of_mem | apply List.mem_append_right)) (by kernel_rfl)) rfl ⟨rfl, H.below⟩
/-- A memory behind samples. -/
def plM (f a x : Nat → Int) : Nat → Int := putP f (mk a x (pstM f) 40)
def plO (f a x : Nat → Int) : Nat → Int := mkOut a x (pstM f)
def PlayPost (f a x : Nat → Int) (s : Bool) (w : World) (e : Ending) (w' : World) : Prop := ∃ v tl, e = .returned (.tuple #[.agg (memA (plM f a x) s), v]) ∧ Rowed 3 1 v 40 (fun i => .int .i64 (plO f a x i)) tl ∧ Has w w' tl
set_option maxHeartbeats 3200000 in
theorem play_any (f a x : Nat → Int) (s : Bool) {v : Value} {w : World} (hG : GoodM f) (ha : FilOk a) (hx : ∀ i, i < 40 → In16 (x i)) (L : Lies w v 40 x) :
    Calls Tryd.prog 51 #[.agg (memA f s), .agg (row 9 a), v] w (PlayPost f a x s w) := by
  have H := Has.start w
  have c1 := Lib.hid (fun (u : World) (hb : Below w.heap.size w u) => Make_l (n := 40) (by omega) ha.bd ha.head hG.past hx (L.below hb))
  clear hG ha hx L
  go_enter Tryd.func51, Tryd.ntmps51
  go_wp2_with (first | ((refine wpList_on (o := ⟨_, .box _ (.tmp 0), _, _, _, _⟩) rfl (fun K hK => ?_)); (try simp only [Act.put, List.setIfInBounds_toArray, List.set_cons_zero, List.set_cons_succ]); refine wp_box H _ (.tmp 0) rfl (v := .agg (memA _ _)) rfl ?_; clear H; intro u g3 H; refine hK _ _ ?_; clear hK K; try simp only [Value.cells, List.cons_append, List.nil_append] at H) | ((refine wpList_on (o := ⟨_, .box _ (.tmp 1), _, _, _, _⟩) rfl (fun K hK => ?_)); (try simp only [Act.put, List.setIfInBounds_toArray, List.set_cons_zero, List.set_cons_succ]); refine wp_box H _ (.tmp 1) rfl (v := .agg _) rfl ?_; clear H; intro u g4 H; refine hK _ _ ?_; clear hK K; try simp only [Value.cells, List.cons_append, List.nil_append] at H) | (refine wpList_on (o := ⟨some 6, .alloc 29, _, _, _, _⟩) rfl (fun K hK => ?_); refine wp_alloc H 29 rfl (z := (.agg (memA (fun _ => 0) false))) (by kernel_rfl) ?_; clear H; intro u g6 H; refine hK _ _ ?_; clear hK K; try simp only [Value.cells, List.cons_append, List.nil_append] at H) | ((refine wpList_on (o := ⟨_, .load 77 _, _, _, _, _⟩) rfl (fun K hK => ?_)); (try simp only [Act.put, List.setIfInBounds_toArray, List.set_cons_zero, List.set_cons_succ]); refine wp_load_all H 77 _ rfl rfl (by repeat (first | exact List.mem_cons_self | apply List.mem_cons_of_mem | apply List.mem_append_right)) (by kernel_rfl) ?_; refine hK _ _ ?_; clear hK K) | ((refine wpList_on (o := ⟨_, .load 26 _, _, _, _, _⟩) rfl (fun K hK => ?_)); (try simp only [Act.put, List.setIfInBounds_toArray, List.set_cons_zero, List.set_cons_succ]); refine wp_load_part (n := 8) H 26 _ rfl rfl (by repeat (first | exact List.mem_cons_self | apply List.mem_cons_of_mem | apply List.mem_append_right)) (by kernel_rfl) (by rw [memA_size]; omega) (memA_past _ _) ?_; refine hK _ _ ?_; clear hK K) | (go_at_call 65; (with_reducible refine (c1.out _ H.below).mono ?_); rintro e w1 ⟨vo, tl, rfl, RO, hb⟩; replace H := H.joinR hb; clear hb; (try simp only [List.cons_append, List.nil_append] at H)) | (refine wpList_on (o := ⟨some 9, .alloc 26, _, _, _, _⟩) rfl (fun K hK => ?_); refine wp_alloc H 26 rfl (z := (.agg (row 8 fun _ => 0))) (by kernel_rfl) ?_; clear H; intro u g9 H; refine hK _ _ ?_; clear hK K; try simp only [Value.cells, List.cons_append, List.nil_append] at H) | ((refine wpList_on (o := ⟨_, .store 26 _ _, _, _, _, _⟩) rfl (fun K hK => ?_)); (try simp only [Act.put, List.setIfInBounds_toArray, List.set_cons_zero, List.set_cons_succ]); refine wp_store_all (l1 := []) H 26 _ _ rfl rfl rfl (by kernel_rfl) (by simp [row_size]) (row_one _ _) ?_; clear H; intro u H; refine hK _ _ ?_; clear hK K; try simp only [Value.cells, List.cons_append, List.nil_append] at H) | ((refine wpList_on (o := ⟨_, .load 26 _, _, _, _, _⟩) rfl (fun K hK => ?_)); (try simp only [Act.put, List.setIfInBounds_toArray, List.set_cons_zero, List.set_cons_succ]); refine wp_load_all H 26 _ rfl rfl (by repeat (first | exact List.mem_cons_self | apply List.mem_cons_of_mem | apply List.mem_append_right)) (by kernel_rfl) ?_; refine hK _ _ ?_; clear hK K) | ((refine wpList_on (o := ⟨_, .store 26 _ _, _, _, _, _⟩) rfl (fun K hK => ?_)); (try simp only [Act.put, List.setIfInBounds_toArray, List.set_cons_zero, List.set_cons_succ]); refine wp_store_part (l1 := [_, _, _]) H 26 _ _ rfl rfl rfl (by rw [row_size]; kernel_rfl) (by rw [memA_size, row_size]; omega) (row_oneCell _ _) (memA_putP _ _ _) ?_; clear H; intro u H; refine hK _ _ ?_; clear hK K; try simp only [Value.cells, List.cons_append, List.nil_append] at H) | ((refine wpList_on (o := ⟨_, .load 29 _, _, _, _, _⟩) rfl (fun K hK => ?_)); (try simp only [Act.put, List.setIfInBounds_toArray, List.set_cons_zero, List.set_cons_succ]); refine wp_load_all H 29 _ rfl rfl (by repeat (first | exact List.mem_cons_self | apply List.mem_cons_of_mem | apply List.mem_append_right)) (by rw [memA_size]; kernel_rfl) ?_; refine hK _ _ ?_; clear hK K) | ((refine wpList_on (o := ⟨_, .store 29 _ _, _, _, _, _⟩) rfl (fun K hK => ?_)); (try simp only [Act.put, List.setIfInBounds_toArray, List.set_cons_zero, List.set_cons_succ]); refine wp_store_all (l1 := [_]) H 29 _ _ rfl rfl rfl (by rw [memA_size]; kernel_rfl) (by rw [memA_size, memA_size]) (memA_one _ _) ?_; clear H; intro u H; refine hK _ _ ?_; clear hK K; try simp only [Value.cells, List.cons_append, List.nil_append] at H))
  refine bodyPost_ret (results_has rfl _ H rfl (by repeat (first | exact List.mem_cons_self | apply List.mem_cons_of_mem | apply List.mem_append_right)) (by rw [memA_size]; kernel_rfl)) rfl ⟨vo, tl, rfl, RO, H.sub (by repeat (first | exact List.Sublist.refl _ | apply List.Sublist.cons))⟩
/-- Half a frame of speech. -/
structure SubOk (u : Nat → Int) : Prop where
  lag : 0 ≤ u 0 ∧ u 0 ≤ 59
  pitch : 0 ≤ u 1 ∧ u 1 ≤ 7
  index : ∀ i, i < 4 → 0 ≤ u (2 + i) ∧ u (2 + i) ≤ 9
  signs : 0 ≤ u 6 ∧ u 6 ≤ 15
  level : 0 ≤ u 7 ∧ u 7 ≤ 31
def hfC (u : Nat → Int) : Nat → Int := buildS (fun i => u (2 + i)) (u 6) (lev (u 7)) 4
def hfX (f u : Nat → Int) : Nat → Int := mixF (excM f) (20 + (u 0).toNat) (gainI (u 1)) (hfC u)
def hfM (f u : Nat → Int) : Nat → Int := putI (putI (putI (putX f (keepF (excM f) (hfX f u))) 98 (20 + u 0)) 97 (gainI (u 1))) 96 (lev (u 7))
theorem hfX_in (f u : Nat → Int) (i : Nat) : In16 (hfX f u i) := mixF_bd _ _ _ _ _
theorem gainI_in {n : Int} (h : 0 ≤ n ∧ n ≤ 7) : 0 ≤ gainI n ∧ gainI n ≤ 18022 := gainF_bd (by omega)
theorem putX_good {f x : Nat → Int} (h : GoodM f) : GoodM (putX f (keepF (excM f) x)) := by
  obtain ⟨h1, h2, h3, h4, h5, h6, h7, h8⟩ := h
  refine ⟨fun i hi => ?_, fun i hi => ?_, fun i hi => ?_, h4, h5, h6, h7, h8⟩
  · unfold putX; rw [if_neg (by omega)]; exact h1 i hi
  · have := h2 i hi; unfold pstM putX at *; rw [if_neg (by omega)]; exact this
  · have := keepF_in (x := x) h3 i hi
    show In16 (putX _ _ (16 + i))
    unfold putX
    rw [if_pos (by omega), show 16 + i - 16 = i by omega]
    exact this
theorem putI_good {f : Nat → Int} (h : GoodM f) {k : Nat} {v : Int} (hk : (k = 96 ∧ 0 ≤ v ∧ v ≤ 32767) ∨ (k = 97 ∧ 0 ≤ v ∧ v ≤ 18022) ∨ (k = 98 ∧ 20 ≤ v ∧ v ≤ 79) ∨ (k = 99 ∧ 0 ≤ v ∧ v ≤ 6)) : GoodM (putI f k v) := by
  obtain ⟨h1, h2, h3, h4, h5, h6, h7, h8⟩ := h
  refine ⟨fun i hi => ?_, fun i hi => ?_, fun i hi => ?_, ?_, ?_, ?_, ?_, ?_⟩
  · unfold putI; rw [if_neg (by omega)]; exact h1 i hi
  · have := h2 i hi; unfold pstM putI at *; rw [if_neg (by omega)]; exact this
  · have := h3 i hi; unfold excM putI at *; rw [if_neg (by omega)]; exact this
  all_goals
    unfold putI
    rcases hk with ⟨rfl, a, b⟩ | ⟨rfl, a, b⟩ | ⟨rfl, a, b⟩ | ⟨rfl, a, b⟩ <;> simp <;> first | exact ⟨a, b⟩ | assumption
theorem hfM_good {f u : Nat → Int} (h : GoodM f) (hu : SubOk u) : GoodM (hfM f u) := by
  have g := gainI_in hu.pitch
  have l := lev_bd hu.level.1 hu.level.2
  have a := hu.lag
  exact putI_good (putI_good (putI_good (putX_good h) (.inr (.inr (.inl ⟨rfl, by omega, by omega⟩)))) (.inr (.inl ⟨rfl, g.1, g.2⟩))) (.inl ⟨rfl, by omega, l.2⟩)
theorem plM_good {f a x : Nat → Int} (h : GoodM f) : GoodM (plM f a x) := by
  obtain ⟨h1, h2, h3, h4, h5, h6, h7, h8⟩ := h
  refine ⟨fun i hi => ?_, fun i hi => ?_, fun i hi => ?_, h4, h5, h6, h7, h8⟩
  · unfold plM putP; rw [if_neg (by omega)]; exact h1 i hi
  · have := mk_bd a x h2 40 i hi
    show In16 (putP _ _ (8 + i))
    unfold putP
    rw [if_pos (by omega), show 8 + i - 8 = i by omega]
    exact this
  · have := h3 i hi; unfold plM excM putP at *; rw [if_neg (by omega)]; exact this
def HalfPost (f a u : Nat → Int) (s : Bool) (w : World) (e : Ending) (w' : World) : Prop := PlayPost (hfM f u) a (hfX f u) s w e w'
set_option maxHeartbeats 6400000 in
theorem half_any (f a q : Nat → Int) (s : Bool) (w : World) (hG : GoodM f) (ha : FilOk a) (hq : SubOk q) (hT : Roots w) (hP : Gains w) :
    Calls Tryd.prog 41 #[.agg (memA f s), .agg (row 9 a), .agg (row 8 q)] w (HalfPost f a q s w) := by
  have H := Has.start w
  have hl := lev_bd hq.level.1 hq.level.2
  have hg := gainI_in hq.pitch
  have c1 := Lib.hid (fun (w : World) (hT : Roots w) => GLevel_any (q 7) w hT hq.level.1 hq.level.2)
  have c2 := Lib.hid (fun (w : World) (hT : Gains w) => PGain_any (q 1) w hT hq.pitch.1 hq.pitch.2)
  have c3 := Lib.hid (fun (w : World) => show Calls Tryd.prog 77 #[.agg (row 4 fun i => q (2 + i)), .int .i64 (q 6), .int .i64 (lev (q 7))] w fun e w' => ∃ g, e = .returned (.tuple #[.slice (some ⟨g, 0, none⟩) 40 40, .int .i64 0]) ∧ Has w w' [(g, 3, row 40 (hfC q))] from Build_any (fun i => q (2 + i)) (q 6) (lev (q 7)) w hq.index hq.signs.1 hq.signs.2 (by omega) (by omega))
  have hlag : ((20 + (q 0).toNat : Nat) : Int) = 20 + q 0 := by have := hq.lag; omega
  have c4 := Lib.hid (fun (v : Value) (w : World) (L : Lies w v 40 (hfC q)) => show Calls Tryd.prog 81 #[.agg (row 80 (excM f)), .int .i64 (20 + q 0), .int .i64 (gainI (q 1)), v] w (fun e w' => ∃ g, e = .returned (.tuple #[.slice (some ⟨g, 0, none⟩) 40 40, .int .i64 0]) ∧ Has w w' [(g, 3, row 40 (hfX f q))]) from by
    rw [← hlag]
    exact Mix_any (excM f) (hfC q) (20 + (q 0).toNat) (gainI (q 1)) (by omega) (by have := hq.lag; omega) hg.1 (by omega) L)
  have c5 := Lib.hid (fun (v : Value) (w : World) (L : Lies w v 40 (hfX f q)) => Keep_any (excM f) (hfX f q) L)
  have c6 := Lib.hid (fun (v : Value) (w : World) (L : Lies w v 40 (hfX f q)) => play_any (hfM f q) a (hfX f q) s (hfM_good hG hq) ha (fun i _ => hfX_in f q i) L)
  have hu0 := hq.lag
  have hw20 : IntKind.i64.wrap (20 + q 0) = 20 + q 0 := by rw [IntKind.wrap_i64]; omega
  clear hG ha hq hl hg hlag
  go_enter Tryd.func41, Tryd.ntmps41
  go_wp2_with (first | ((refine wpList_on (o := ⟨_, .box _ (.tmp 0), _, _, _, _⟩) rfl (fun K hK => ?_)); (try simp only [Act.put, List.setIfInBounds_toArray, List.set_cons_zero, List.set_cons_succ]); refine wp_box H _ (.tmp 0) rfl (v := .agg (memA _ _)) rfl ?_; clear H; intro u g3 H; refine hK _ _ ?_; clear hK K; try simp only [Value.cells, List.cons_append, List.nil_append] at H) | ((refine wpList_on (o := ⟨_, .box _ (.tmp 1), _, _, _, _⟩) rfl (fun K hK => ?_)); (try simp only [Act.put, List.setIfInBounds_toArray, List.set_cons_zero, List.set_cons_succ]); refine wp_box H _ (.tmp 1) rfl (v := .agg _) rfl ?_; clear H; intro u g4 H; refine hK _ _ ?_; clear hK K; try simp only [Value.cells, List.cons_append, List.nil_append] at H) | ((refine wpList_on (o := ⟨_, .box _ (.tmp 2), _, _, _, _⟩) rfl (fun K hK => ?_)); (try simp only [Act.put, List.setIfInBounds_toArray, List.set_cons_zero, List.set_cons_succ]); refine wp_box H _ (.tmp 2) rfl (v := .agg _) rfl ?_; clear H; intro u g5 H; refine hK _ _ ?_; clear hK K; try simp only [Value.cells, List.cons_append, List.nil_append] at H) | (refine wpList_on (o := ⟨some 6, .alloc 29, _, _, _, _⟩) rfl (fun K hK => ?_); refine wp_alloc H 29 rfl (z := (.agg (memA (fun _ => 0) false))) (by kernel_rfl) ?_; clear H; intro u g6 H; refine hK _ _ ?_; clear hK K; try simp only [Value.cells, List.cons_append, List.nil_append] at H) | ((refine wpList_on (o := ⟨_, .load 3 _, _, _, _, _⟩) rfl (fun K hK => ?_)); (try simp only [Act.put, List.setIfInBounds_toArray, List.set_cons_zero, List.set_cons_succ]); refine wp_load_one H 3 _ rfl rfl (by repeat (first | exact List.mem_cons_self | apply List.mem_cons_of_mem | apply List.mem_append_right)) (by kernel_rfl) (row_get _ (by omega)) ?_; refine hK _ _ ?_; clear hK K) | ((refine wpList_on (o := ⟨_, .load 39 _, _, _, _, _⟩) rfl (fun K hK => ?_)); (try simp only [Act.put, List.setIfInBounds_toArray, List.set_cons_zero, List.set_cons_succ]); refine wp_load_part (n := 4) H 39 _ rfl rfl (by repeat (first | exact List.mem_cons_self | apply List.mem_cons_of_mem | apply List.mem_append_right)) (by kernel_rfl) (by simp [row_size, rowV_size]) (row_extract (n := 8) (o := 2) (m := 4) _ (by omega)) ?_; refine hK _ _ ?_; clear hK K) | (go_at_call 77; (with_reducible refine (c3.out _).mono ?_); rintro e w1 ⟨gc, rfl, hb⟩; replace H := H.joinR hb; clear hb; (try simp only [List.cons_append, List.nil_append] at H)) | ((refine wpList_on (o := ⟨_, .load 27 _, _, _, _, _⟩) rfl (fun K hK => ?_)); (try simp only [Act.put, List.setIfInBounds_toArray, List.set_cons_zero, List.set_cons_succ]); refine wp_load_part (n := 80) H 27 _ rfl rfl (by repeat (first | exact List.mem_cons_self | apply List.mem_cons_of_mem | apply List.mem_append_right)) (by kernel_rfl) (by rw [memA_size]; omega) (memA_exc _ _) ?_; refine hK _ _ ?_; clear hK K) | (go_at_call 81; (with_reducible refine (c4.out _ _ (H.lies (by repeat (first | exact List.mem_cons_self | apply List.mem_cons_of_mem | apply List.mem_append_right)) (Nat.le_refl _))).mono ?_); rintro e w1 ⟨gx, rfl, hb⟩; replace H := H.joinR hb; clear hb; (try simp only [List.cons_append, List.nil_append] at H)) | (go_at_call 82; (with_reducible refine (c5.out _ _ (H.lies (by repeat (first | exact List.mem_cons_self | apply List.mem_cons_of_mem | apply List.mem_append_right)) (Nat.le_refl _))).mono ?_); rintro e w1 ⟨rfl, hb⟩; replace H := H.callee hb; clear hb) | ((refine wpList_on (o := ⟨_, .store 27 _ _, _, _, _, _⟩) rfl (fun K hK => ?_)); (try simp only [Act.put, List.setIfInBounds_toArray, List.set_cons_zero, List.set_cons_succ]); refine wp_store_part (l1 := [_, _, _]) H 27 _ _ rfl rfl rfl (by rw [row_size]; kernel_rfl) (by rw [memA_size, row_size]; omega) (row_oneCell _ _) (memA_putX _ _ _) ?_; clear H; intro u H; refine hK _ _ ?_; clear hK K; try simp only [Value.cells, List.cons_append, List.nil_append] at H) | ((refine wpList_on (o := ⟨_, .store 3 _ _, _, _, _, _⟩) rfl (fun K hK => ?_)); (try simp only [Act.put, List.setIfInBounds_toArray, List.set_cons_zero, List.set_cons_succ]); refine wp_store_mem (l1 := [_, _, _]) H 3 _ _ rfl rfl rfl (by kernel_rfl) (by omega) ?_; clear H; intro u H; refine hK _ _ ?_; clear hK K; try simp only [Value.cells, List.cons_append, List.nil_append] at H) | ((refine wpList_on (o := ⟨_, .load 29 _, _, _, _, _⟩) rfl (fun K hK => ?_)); (try simp only [Act.put, List.setIfInBounds_toArray, List.set_cons_zero, List.set_cons_succ]); refine wp_load_all H 29 _ rfl rfl (by repeat (first | exact List.mem_cons_self | apply List.mem_cons_of_mem | apply List.mem_append_right)) (by rw [memA_size]; kernel_rfl) ?_; refine hK _ _ ?_; clear hK K) | ((refine wpList_on (o := ⟨_, .load 77 _, _, _, _, _⟩) rfl (fun K hK => ?_)); (try simp only [Act.put, List.setIfInBounds_toArray, List.set_cons_zero, List.set_cons_succ]); refine wp_load_all H 77 _ rfl rfl (by repeat (first | exact List.mem_cons_self | apply List.mem_cons_of_mem | apply List.mem_append_right)) (by kernel_rfl) ?_; refine hK _ _ ?_; clear hK K) | (go_at_call 80; (with_reducible refine (c1.out _ (hT.has H)).mono ?_); rintro e w1 ⟨rfl, rfl⟩) | (go_at_call 72; (with_reducible refine (c2.out _ (hP.has H)).mono ?_); rintro e w1 ⟨rfl, rfl⟩))
  refine (c6.out _ _ (H.lies (by repeat (first | exact List.mem_cons_self | apply List.mem_cons_of_mem | apply List.mem_append_right)) (Nat.le_refl _))).mono ?_
  rintro e w1 ⟨vo, tl, rfl, RO, hb⟩
  replace H := H.joinR hb
  clear hb
  simp only [List.cons_append, List.nil_append] at H
  go_wp2_with (first | ((refine wpList_on (o := ⟨_, .store 29 _ _, _, _, _, _⟩) rfl (fun K hK => ?_)); (try simp only [Act.put, List.setIfInBounds_toArray, List.set_cons_zero, List.set_cons_succ]); refine wp_store_all (l1 := []) H 29 _ _ rfl rfl rfl (by rw [memA_size]; kernel_rfl) (by rw [memA_size, memA_size]) (memA_one _ _) ?_; clear H; intro u H; refine hK _ _ ?_; clear hK K; try simp only [Value.cells, List.cons_append, List.nil_append] at H))
  refine bodyPost_ret (results_has rfl _ H rfl (by repeat (first | exact List.mem_cons_self | apply List.mem_cons_of_mem | apply List.mem_append_right)) (by rw [memA_size]; kernel_rfl)) rfl ⟨vo, tl, rfl, RO, H.sub (by repeat (first | exact List.Sublist.refl _ | apply List.Sublist.cons))⟩
end Go.Proofs.YtcoicmbjoaonoaaDoor
