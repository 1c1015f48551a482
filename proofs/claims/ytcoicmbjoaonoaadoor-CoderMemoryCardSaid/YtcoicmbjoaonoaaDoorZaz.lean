/-
  Several texts of this claim, one behind the other: Choose. No statement is proved here.
-/
import Derived.Test.YtcoicmbjoaonoaaDoorZaw
import Derived.Test.YtcoicmbjoaonoaaDoorZas
import Derived.Test.YtcoicmbjoaonoaaDoorZay
/-
  coder.choose walked. No statement is proved here.
-/
namespace Go.Proofs.YtcoicmbjoaonoaaDoor
set_option linter.unusedVariables false
set_option linter.unusedSimpArgs false
open Go.RowKit
set_option maxRecDepth 100000
theorem Near_ex (c e : Int) (w : World) (hT : Gains w) (hc : c ≤ 1099511627776) (he : e ≤ 1099511627776) : Calls Tryd.prog 71 #[.int .i64 c, .int .i64 e] w fun x w' => ∃ n : Int, 0 ≤ n ∧ n ≤ 7 ∧ x = .returned (.int .i64 n) ∧ Below w.heap.size w w' := by
  by_cases h : c ≤ 0 ∨ e ≤ 0
  · refine (Nearest_0 c e w h).mono fun x w' hx => ?_
    obtain ⟨rfl, rfl⟩ := hx
    exact ⟨0, by omega, by omega, rfl, Below.refl _ _⟩
  · refine (Nearest_any c e w hT (by omega) hc (by omega) he).mono fun x w' hx => ?_
    obtain ⟨rfl, hb⟩ := hx
    have := bestN_le gainF e (32768 * c) 7
    exact ⟨_, by omega, by omega, rfl, hb⟩
theorem lies_cells {w u : World} {bs : List (Nat × TypeId × Array Value)} {g cap : Nat} {t : TypeId} {cs : Array Value} {f : Nat → Int} (H : Has w u bs) (hm : (g, t, cs) ∈ bs) (h : ∀ i, i < 40 * 1 → cs[i]? = some (.int .i64 (f i))) : Lies u (.slice (some ⟨g, 0, none⟩) 40 cap) 40 f :=
  ⟨_, cap, g, 0, rfl, Reads.ofCells H hm (fun i hi => h i (by omega))⟩
def ex80 (f : Nat → Int) (i : Nat) : Int := if i < 80 then excM f i else 0
theorem ex80_in {f : Nat → Int} (h : GoodM f) (i : Nat) : In16 (ex80 f i) := by
  unfold ex80
  by_cases e : i < 80
  · rw [if_pos e]; exact h.exc i e
  · rw [if_neg e]; unfold In16; omega
theorem memA_ex80 (f : Nat → Int) (s : Bool) : (memA f s).extract 16 (16 + 80) = row 80 (ex80 f) := (memA_exc f s).trans (row_congr fun i hi => by unfold ex80; rw [if_pos hi])
def subN (x n : Int) (i : Nat) : Int := if i = 0 then x else if i = 1 then n else 0
def subI (x n : Int) (p : Nat → Int) (i : Nat) : Int := if i = 0 then x else if i = 1 then n else if i < 6 then p (i - 2) else 0
theorem subI_put (x n : Int) (p : Nat → Int) : patch (row 8 (subN x n)) 2 (row 4 p).toList = row 8 (subI x n p) := (row_patch _ _ (by omega)).trans (row_congr fun i hi => by
  unfold subN subI
  by_cases h0 : i = 0
  · rw [if_neg (by omega), if_pos h0, if_pos h0]
  · by_cases h1 : i = 1
    · rw [if_neg (by omega), if_neg h0, if_neg h0, if_pos h1, if_pos h1]
    · by_cases h2 : i < 6
      · rw [if_pos (by omega), if_neg h0, if_neg h1, if_pos h2]
      · rw [if_neg (by omega), if_neg h0, if_neg h0, if_neg h1, if_neg h1, if_neg h2])
def subS (x n : Int) (p : Nat → Int) (s : Int) (i : Nat) : Int := if i = 6 then s else subI x n p i
def subL (x n : Int) (p : Nat → Int) (s l : Int) (i : Nat) : Int := if i = 7 then l else subS x n p s i
theorem subS_part (x n : Int) (p : Nat → Int) (s : Int) : (row 8 (subS x n p s)).extract 2 (2 + 4) = row 4 p := (row_extract _ (by omega)).trans (row_congr fun i hi => by
  unfold subS subI
  rw [if_neg (by omega), if_neg (by omega), if_neg (by omega), if_pos (by omega), show 2 + i - 2 = i by omega])
theorem subL_ok {x n s l : Int} {p : Nat → Int} (hx : 0 ≤ x ∧ x ≤ 59) (hn : 0 ≤ n ∧ n ≤ 7) (hp : Valid4 p) (hs : 0 ≤ s ∧ s ≤ 15) (hl : 0 ≤ l ∧ l ≤ 31) : SubOk (subL x n p s l) := ⟨hx, hn, fun i hi => by
  have := hp i hi
  unfold subL subS subI
  rw [if_neg (by omega), if_neg (by omega), if_neg (by omega), if_neg (by omega), if_pos (by omega), show 2 + i - 2 = i by omega]
  exact this, hs, hl⟩
theorem build_in (p : Nat → Int) (s : Int) (i : Nat) : In16 (buildS p s 4096 4 i) := by
  unfold buildS In16
  split <;> (try split) <;> omega
theorem dotC_bd {a b : Nat → Int} (ha : ∀ i, i < 40 → In16 (a i)) (hb : ∀ i, i < 40 → In16 (b i)) : -42949672960 ≤ dotC a b 40 ∧ dotC a b 40 ≤ 42949672960 := by
  have := sumTo_bd (f := fun i => a i * b i) 40 fun i hi => in16_mul (ha i (by omega)) (hb i (by omega))
  unfold dotC
  omega
set_option maxHeartbeats 12800000 in
theorem choose_any (f a l : Nat → Int) (s : Bool) {v : Value} {w : World} (hG : GoodM f) (ha : FilOk a) (hl : ∀ i, i < 40 → In16 (l i)) (L : Lies w v 40 l) (hT : Roots w) (hP : Gains w) :
    Calls Tryd.prog 40 #[.agg (memA f s), .agg (row 9 a), v] w fun e w' => ∃ q, SubOk q ∧ e = .returned (.agg (row 8 q)) ∧ Below w.heap.size w w' := by
  have H := Has.start w
  have HG := Lib.hid hG
  have HA := Lib.hid ha
  have HL := Lib.hid hl
  have c1 := Lib.hid (fun (g : Nat) (u : World) (L : Lies u (.slice (some ⟨g, 0, none⟩) 40 40) 40 (fun _ => 0)) => Make_l (n := 40) (by omega) ha.bd ha.head hG.past (fun i _ => by unfold In16; omega) L)
  clear hG ha hl
  go_enter Tryd.func40, Tryd.ntmps40
  go_wp2_with (first | ((refine wpList_on (o := ⟨_, .box _ (.tmp 0), _, _, _, _⟩) rfl (fun K hK => ?_)); (try simp only [Act.put, List.setIfInBounds_toArray, List.set_cons_zero, List.set_cons_succ]); refine wp_box H _ (.tmp 0) rfl (v := .agg (memA _ _)) rfl ?_; clear H; intro u g3 H; refine hK _ _ ?_; clear hK K; try simp only [Value.cells, List.cons_append, List.nil_append] at H) | ((refine wpList_on (o := ⟨_, .box _ (.tmp 1), _, _, _, _⟩) rfl (fun K hK => ?_)); (try simp only [Act.put, List.setIfInBounds_toArray, List.set_cons_zero, List.set_cons_succ]); refine wp_box H _ (.tmp 1) rfl (v := .agg _) rfl ?_; clear H; intro u g4 H; refine hK _ _ ?_; clear hK K; try simp only [Value.cells, List.cons_append, List.nil_append] at H) | (refine wpList_on (o := ⟨some 6, .alloc 41, _, _, _, _⟩) rfl (fun K hK => ?_); refine wp_alloc H 41 rfl (z := (.agg (row 8 fun _ => 0))) (by kernel_rfl) ?_; clear H; intro u g6 H; refine hK _ _ ?_; clear hK K; try simp only [Value.cells, List.cons_append, List.nil_append] at H))
  refine' cut_ _ (fun hcut => _) _; rotate_left
  · refine wp_region_ordT [] [] (fun w' => Has w w' [(g4, 77, row 9 a), (g3, 29, memA f s)]) [(3, 4), (3, 9), (4, 9)] [[0, 1, 2, 9, 3, 4, 5, 6, 10, 7, 11, 8, 12], [0, 1, 2, 3, 9, 4, 5, 6, 10, 7, 11, 8, 12], [0, 1, 2, 3, 4, 9, 5, 6, 10, 7, 11, 8, 12]] (by kernel_rfl) (by kernel_rfl) (by kernel_rfl) ?_; replace H := H.drew; generalize World.drew _ = u at *; simp only [List.forall_mem_cons, List.not_mem_nil, false_imp_iff, implies_true, and_true]; (repeat' refine And.intro ?_ ?_)
    all_goals repeat (first | (refine sq_load_all (o := ⟨_, .load 77 _, _, _, _, _⟩) 77 _ rfl rfl rfl rfl rfl (H.sub (by repeat (first | exact List.Sublist.refl _ | exact List.nil_sublist _ | apply List.Sublist.cons_cons | apply List.Sublist.cons | refine List.Sublist.trans ?_ (List.sublist_append_right _ _)))) (by repeat (first | exact List.mem_cons_self | apply List.mem_cons_of_mem | apply List.mem_append_right)) (by kernel_rfl) ?_; simp only [Act.put, List.setIfInBounds_toArray, List.set_cons_zero, List.set_cons_succ]) | (refine sq_load_part (n := 8) (o := ⟨_, .load 26 _, _, _, _, _⟩) 26 _ rfl rfl rfl rfl rfl (H.sub (by repeat (first | exact List.Sublist.refl _ | exact List.nil_sublist _ | apply List.Sublist.cons_cons | apply List.Sublist.cons | refine List.Sublist.trans ?_ (List.sublist_append_right _ _)))) (by repeat (first | exact List.mem_cons_self | apply List.mem_cons_of_mem | apply List.mem_append_right)) (by kernel_rfl) (by rw [memA_size]; omega) (memA_past _ _) ?_; simp only [Act.put, List.setIfInBounds_toArray, List.set_cons_zero, List.set_cons_succ]) | ((refine sq_keep (o := ⟨some 32, .makeSlice _ _ _, _, _, _, _⟩) rfl rfl rfl (fun K hK => ?_); refine wp_make_has (t_ := 35) (e := 3) H _ _ rfl 40 .i64 .i64 rfl rfl ?_ ?_ ?_ ?_ ?_; (kernel_rfl); (kernel_rfl); (omega); (omega); (clear H; intro u gm H; (try simp only [Value.cells, List.cons_append, List.nil_append] at H); refine hK _ _ (H.sub (by repeat (first | exact List.Sublist.refl _ | exact List.nil_sublist _ | apply List.Sublist.cons_cons | apply List.Sublist.cons | refine List.Sublist.trans ?_ (List.sublist_append_right _ _)))) ?_; clear hK K; simp only [Act.put, List.setIfInBounds_toArray, List.set_cons_zero, List.set_cons_succ])); simp only [show Int.toNat 40 = 40 from rfl] at H ⊢) | (refine sq_keep (o := ⟨some 8, .alloc 26, _, _, _, _⟩) rfl rfl rfl (fun K hK => ?_); refine wp_alloc H 26 rfl (z := (.agg (row 8 fun _ => 0))) (by kernel_rfl) ?_; clear H; intro u g8 H; (try simp only [Value.cells, List.cons_append, List.nil_append] at H); refine hK _ _ (H.sub (by repeat (first | exact List.Sublist.refl _ | exact List.nil_sublist _ | apply List.Sublist.cons_cons | apply List.Sublist.cons | refine List.Sublist.trans ?_ (List.sublist_append_right _ _)))) ?_; clear hK K; simp only [Act.put, List.setIfInBounds_toArray, List.set_cons_zero, List.set_cons_succ]) | (refine sq_keep (o := ⟨_, .call _, _, _, _, _⟩) rfl rfl rfl (fun K hK => ?_); go_simp; (go_at_call 65; (with_reducible refine (c1.out _ _ (H.lies (by repeat (first | exact List.mem_cons_self | apply List.mem_cons_of_mem | apply List.mem_append_right)) (Nat.le_refl _))).mono ?_); rintro e w1 ⟨vo, tlo, rfl, RP, hb⟩; obtain ⟨gq, capq, csq, rfl, rfl, hcapq, hszq, hcsq⟩ := RP.some_ (by omega); clear RP; replace H := H.join hb; clear hb; (try simp only [List.cons_append, List.nil_append] at H)); refine hK _ _ (H.sub (by repeat (first | exact List.Sublist.refl _ | exact List.nil_sublist _ | apply List.Sublist.cons_cons | apply List.Sublist.cons | refine List.Sublist.trans ?_ (List.sublist_append_right _ _)))) ?_; clear hK K; try simp only [Act.put, List.setIfInBounds_toArray, List.set_cons_zero, List.set_cons_succ]) | (refine sq_eff (o := ⟨_, .store 26 _ _, _, _, _, _⟩) rfl rfl rfl (fun K hK => ?_); refine wp_store_all (l1 := [_, _]) H 26 _ _ rfl rfl rfl (by kernel_rfl) (by simp [row_size]) (row_one _ _) ?_; clear H; intro u H; (try simp only [Value.cells, List.cons_append, List.nil_append] at H); refine hK _ _ ?_; clear hK K; simp only [Act.put, List.setIfInBounds_toArray, List.set_cons_zero, List.set_cons_succ]) | (refine sq_eff (o := ⟨_, .store 26 _ _, _, _, _, _⟩) rfl rfl rfl (fun K hK => ?_); refine wp_store_all (l1 := [_]) H 26 _ _ rfl rfl rfl (by kernel_rfl) (by simp [row_size]) (row_one _ _) ?_; clear H; intro u H; (try simp only [Value.cells, List.cons_append, List.nil_append] at H); refine hK _ _ ?_; clear hK K; simp only [Act.put, List.setIfInBounds_toArray, List.set_cons_zero, List.set_cons_succ]) | (refine sq_eff (o := ⟨_, .store 26 _ _, _, _, _, _⟩) rfl rfl rfl (fun K hK => ?_); refine wp_store_all (l1 := []) H 26 _ _ rfl rfl rfl (by kernel_rfl) (by simp [row_size]) (row_one _ _) ?_; clear H; intro u H; (try simp only [Value.cells, List.cons_append, List.nil_append] at H); refine hK _ _ ?_; clear hK K; simp only [Act.put, List.setIfInBounds_toArray, List.set_cons_zero, List.set_cons_succ]) | (refine sq_free (o := ⟨_, _, _, _, _, _⟩) (v := ?_) rfl rfl rfl ?_ ?_; rotate_left; (intro w'; go_simp; try with_reducible rfl); simp only [Act.put, List.setIfInBounds_toArray, List.set_cons_zero, List.set_cons_succ]))
    all_goals refine sq_nil ?_
    all_goals replace H := H.sub (bs' := [(gq, 3, csq), (g6, 41, row 8 fun _ => 0), (g4, 77, row 9 a), (g3, 29, memA f s)]) (by repeat (first | exact List.Sublist.refl _ | exact List.nil_sublist _ | apply List.Sublist.cons_cons | apply List.Sublist.cons))
    all_goals clear hszq hcapq
    · revert hcsq H
      revert csq capq gq g8 gm u
      exact hcut.out
    all_goals exact hcut.out _ _ _ _ _ _ hcsq H
  clear H c1
  intro g8 gm gq capq csq u hcsq H
  go_wp2_with fail
  refine (less_any l (plO f a (fun _ => 0)) HL.out (fun i _ => plO_in _ _ _ i) (L.below H.below) (lies_cells H List.mem_cons_self hcsq)).mono ?_
  rintro e u ⟨gt, rfl, hb⟩
  replace H := H.join hb
  clear hb hcsq
  replace H := H.sub (bs' := [(gt, 3, row 40 (lessF l (plO f a fun _ => 0))), (g6, 41, row 8 fun _ => 0), (g4, 77, row 9 a), (g3, 29, memA f s)]) (by repeat (first | exact List.Sublist.refl _ | exact List.nil_sublist _ | apply List.Sublist.cons_cons | apply List.Sublist.cons))
  have ht1 : Hid (∀ i, In16 (lessF l (plO f a fun _ => 0) i)) := fun i => sat16_bd _
  generalize lessF l (plO f a fun _ => 0) = t1 at *
  go_wp2_with (first | ((refine wpList_on (o := ⟨_, .load 77 _, _, _, _, _⟩) rfl (fun K hK => ?_)); (try simp only [Act.put, List.setIfInBounds_toArray, List.set_cons_zero, List.set_cons_succ]); refine wp_load_all H 77 _ rfl rfl (by repeat (first | exact List.mem_cons_self | apply List.mem_cons_of_mem | apply List.mem_append_right)) (by kernel_rfl) ?_; refine hK _ _ ?_; clear hK K))
  refine (Ring_any a _ HA.out).mono ?_
  rintro e u ⟨vr, tlr, rfl, RR, hb⟩
  obtain ⟨gr, capr, csr, rfl, rfl, hcapr, hszr, hcsr⟩ := RR.some_ (by omega)
  clear RR hszr hcapr
  replace H := H.join hb
  clear hb
  simp only [List.cons_append, List.nil_append] at H
  have hr1 : Hid (∀ i, In16 (ringF a i)) := fun i => ringF_in a i
  have HCR := Lib.hid hcsr
  clear hcsr
  generalize ringF a = rg at *
  have hmf : ∀ (fn : Fn) (first cap : Array Value) (w : World), (Instr.makeFunc fn first cap).run Tryd.prog w = .ok (.func fn first cap) w := fun _ _ _ _ => rfl
  go_wp2_with (first | (refine wpList_on (o := ⟨some 11, .alloc 35, _, _, _, _⟩) rfl (fun K hK => ?_); refine wp_alloc H 35 rfl (z := (.slice none 0 0)) (by kernel_rfl) ?_; clear H; intro u gb H; refine hK _ _ ?_; clear hK K; try simp only [Value.cells, List.cons_append, List.nil_append] at H) | ((refine wpList_on (o := ⟨_, .store 35 _ _, _, _, _, _⟩) rfl (fun K hK => ?_)); (try simp only [Act.put, List.setIfInBounds_toArray, List.set_cons_zero, List.set_cons_succ]); refine wp_store_one (l1 := []) (cs := #[.slice none 0 0]) (v := .slice (some ⟨gr, 0, none⟩) 40 capr) (i := 0) H 35 _ _ rfl rfl rfl (by kernel_rfl) (by decide) rfl ?_; clear H; intro u H; refine hK _ _ ?_; clear hK K) | ((refine wpList_on (o := ⟨_, .load 27 _, _, _, _, _⟩) rfl (fun K hK => ?_)); (try simp only [Act.put, List.setIfInBounds_toArray, List.set_cons_zero, List.set_cons_succ]); refine wp_load_part (n := 80) H 27 _ rfl rfl (by repeat (first | exact List.mem_cons_self | apply List.mem_cons_of_mem | apply List.mem_append_right)) (by kernel_rfl) (by rw [memA_size]; omega) (memA_ex80 _ _) ?_; refine hK _ _ ?_; clear hK K))
  replace H : Has w _ [(gb, 35, #[.slice (some ⟨gr, 0, none⟩) 40 capr]), (gr, 3, csr), (gt, 3, row 40 t1), (g6, 41, row 8 fun _ => 0), (g4, 77, row 9 a), (g3, 29, memA f s)] := H
  have HX := Lib.hid (fun i => ex80_in HG.out i)
  refine (Pick_any (ex80 f) t1 rg gb (fun i => HX.out i) (fun i _ => hr1.out i) (fun i _ => ht1.out i) (cell_of H List.mem_cons_self) (lies_cells H (by repeat (first | exact List.mem_cons_self | apply List.mem_cons_of_mem | apply List.mem_append_right)) HCR.out) (H.lies (by repeat (first | exact List.mem_cons_self | apply List.mem_cons_of_mem | apply List.mem_append_right)) (Nat.le_refl _))).mono ?_
  rintro e u ⟨best, bc, be, rfl, hB, b1, b2, hb⟩
  replace H := H.callee hb
  obtain ⟨l0, l1, l2, l3⟩ := best_lag hB (by omega)
  have l4 : best ≤ 79 := by omega
  clear hb hB l1
  have hX80 := Lib.hid (memA_ex80 f s)
  generalize ex80 f = h at *
  go_wp2_with (first | (go_at_call 71; (with_reducible refine (Near_ex bc be _ (hP.has H) (by omega) (by omega)).mono ?_); rintro e w1 ⟨n, n0, n1, rfl, hb⟩; replace H := H.callee hb; clear hb) | (refine wpList_on (o := ⟨some 18, .alloc 41, _, _, _, _⟩) rfl (fun K hK => ?_); refine wp_alloc H 41 rfl (z := (.agg (row 8 fun _ => 0))) (by kernel_rfl) ?_; clear H; intro u g18 H; refine hK _ _ ?_; clear hK K; try simp only [Value.cells, List.cons_append, List.nil_append] at H) | ((refine wpList_on (o := ⟨_, .store 41 _ _, _, _, _, _⟩) rfl (fun K hK => ?_)); (try simp only [Act.put, List.setIfInBounds_toArray, List.set_cons_zero, List.set_cons_succ]); refine wp_store_all (cs' := row 8 (subN ((best : Int) - 20) n)) (l1 := []) H 41 _ _ rfl rfl rfl (by kernel_rfl) (by simp [row_size]) (row_one _ _) ?_; clear H; intro u H; refine hK _ _ ?_; clear hK K; (try simp only [List.cons_append, List.nil_append] at H)) | ((refine wpList_on (o := ⟨_, .load 3 _, _, _, _, _⟩) rfl (fun K hK => ?_)); (try simp only [Act.put, List.setIfInBounds_toArray, List.set_cons_zero, List.set_cons_succ]); refine wp_load_one (g := g18) (i := 1) (v := .int .i64 n) H 3 _ rfl rfl (by repeat (first | exact List.mem_cons_self | apply List.mem_cons_of_mem | apply List.mem_append_right)) (by kernel_rfl) (row_get (n := 8) (i := 1) (subN ((best : Int) - 20) n) (by omega)) ?_; refine hK _ _ ?_; clear hK K) | (go_at_call 72; (with_reducible refine (PGain_any n _ (hP.has H) n0 n1).mono ?_); rintro e w1 ⟨rfl, rfl⟩) | ((refine wpList_on (o := ⟨_, .load 27 _, _, _, _, _⟩) rfl (fun K hK => ?_)); (try simp only [Act.put, List.setIfInBounds_toArray, List.set_cons_zero, List.set_cons_succ]); refine wp_load_part (n := 80) H 27 _ rfl rfl (by repeat (first | exact List.mem_cons_self | apply List.mem_cons_of_mem | apply List.mem_append_right)) (by kernel_rfl) (by rw [memA_size]; omega) hX80.out ?_; refine hK _ _ ?_; clear hK K) | (go_at_call 73; (with_reducible refine (Past_any h best _ l0 l4).mono ?_); rintro e w1 ⟨gp, rfl, hb⟩; replace H := H.join hb; clear hb; (try simp only [List.cons_append, List.nil_append] at H)))
  refine (chooser_any rg (pastF h best) gb (fun i _ => hr1.out i) (fun i _ => HX.out _) (cell_of H (by repeat (first | exact List.mem_cons_self | apply List.mem_cons_of_mem | apply List.mem_append_right))) (lies_cells H (by repeat (first | exact List.mem_cons_self | apply List.mem_cons_of_mem | apply List.mem_append_right)) HCR.out) (H.lies List.mem_cons_self (Nat.le_refl _))).mono ?_
  rintro e u ⟨vf, tl, rfl, RO, hb⟩
  obtain ⟨gf, capf, csf, rfl, rfl, hcapf, hszf, hcsf⟩ := RO.some_ (by omega)
  clear RO hszf hcapf
  replace H := H.join hb
  clear hb
  simp only [List.cons_append, List.nil_append] at H
  go_wp2_with fail
  refine (scale_any (foldOut rg (pastF h best)) (gainI n) (fun i _ => foldOut_bd _ _ i) (by have := gainI_in ⟨n0, n1⟩; omega) (lies_cells H List.mem_cons_self hcsf)).mono ?_
  rintro e u ⟨gs, rfl, hb⟩
  replace H := H.join hb
  clear hb
  simp only [List.cons_append, List.nil_append] at H
  clear hcsf
  go_wp2_with fail
  refine (less_any t1 (scaleF (foldOut rg (pastF h best)) (gainI n)) (fun i _ => ht1.out i) (fun i _ => sat16_bd _) (H.lies (by repeat (first | exact List.mem_cons_self | apply List.mem_cons_of_mem | apply List.mem_append_right)) (Nat.le_refl _)) (H.lies List.mem_cons_self (Nat.le_refl _))).mono ?_
  rintro e u ⟨gt2, rfl, hb⟩
  replace H := H.join hb
  clear hb
  simp only [List.cons_append, List.nil_append] at H
  replace H := H.sub (bs' := [(gt2, 3, row 40 (lessF t1 (scaleF (foldOut rg (pastF h best)) (gainI n)))), (g18, 41, row 8 (subN ((best : Int) - 20) n)), (gb, 35, #[.slice (some ⟨gr, 0, none⟩) 40 capr]), (gr, 3, csr), (g6, 41, row 8 fun _ => 0)]) (by repeat (first | exact List.Sublist.refl _ | exact List.nil_sublist _ | apply List.Sublist.cons_cons | apply List.Sublist.cons))
  have ht2 : Hid (∀ i, In16 (lessF t1 (scaleF (foldOut rg (pastF h best)) (gainI n)) i)) := fun i => sat16_bd _
  generalize lessF t1 (scaleF (foldOut rg (pastF h best)) (gainI n)) = t2 at *
  clear ht1 hX80 HX
  go_wp2_with (first | ((refine wpList_on (o := ⟨_, .load 35 _, _, _, _, _⟩) rfl (fun K hK => ?_)); (try simp only [Act.put, List.setIfInBounds_toArray, List.set_cons_zero, List.set_cons_succ]); refine wp_load_one H 35 _ rfl rfl (by repeat (first | exact List.mem_cons_self | apply List.mem_cons_of_mem | apply List.mem_append_right)) (by kernel_rfl) rfl ?_; refine hK _ _ ?_; clear hK K))
  refine (Target_any t2 rg (fun i _ => ht2.out i) (fun i _ => hr1.out i) (H.lies List.mem_cons_self (Nat.le_refl _)) (lies_cells H (by repeat (first | exact List.mem_cons_self | apply List.mem_cons_of_mem | apply List.mem_append_right)) HCR.out)).mono ?_
  rintro e u ⟨gd, rfl, hb⟩
  replace H := H.join hb
  clear hb
  simp only [List.cons_append, List.nil_append] at H
  have htb : Hid (∀ i, i < 40 → -1099511627776 ≤ tgS t2 rg i ∧ tgS t2 rg i ≤ 1099511627776) := fun i hi => tgS_bd (fun i _ => ht2.out i) (fun i _ => hr1.out i) i hi
  generalize tgS t2 rg = d at *
  go_wp2_with (first | ((refine wpList_on (o := ⟨_, .load 35 _, _, _, _, _⟩) rfl (fun K hK => ?_)); (try simp only [Act.put, List.setIfInBounds_toArray, List.set_cons_zero, List.set_cons_succ]); refine wp_load_one H 35 _ rfl rfl (by repeat (first | exact List.mem_cons_self | apply List.mem_cons_of_mem | apply List.mem_append_right)) (by kernel_rfl) rfl ?_; refine hK _ _ ?_; clear hK K))
  refine (Few_any d rg htb.out (fun i _ => hr1.out i) (H.lies List.mem_cons_self (Nat.le_refl _)) (lies_cells H (by repeat (first | exact List.mem_cons_self | apply List.mem_cons_of_mem | apply List.mem_append_right)) HCR.out)).mono ?_
  rintro e u ⟨at_, si, hV, s0, s1, _, rfl, hb⟩
  replace H := H.callee hb
  clear hb htb
  have HV : Hid (∀ i, i < 4 → 0 ≤ at_ i ∧ at_ i ≤ 9) := hV
  clear hV
  replace H := H.sub (bs' := [(gt2, 3, row 40 t2), (g18, 41, row 8 (subN ((best : Int) - 20) n)), (gb, 35, #[.slice (some ⟨gr, 0, none⟩) 40 capr]), (gr, 3, csr), (g6, 41, row 8 fun _ => 0)]) (by repeat (first | exact List.Sublist.refl _ | exact List.nil_sublist _ | apply List.Sublist.cons_cons | apply List.Sublist.cons))
  go_wp2_with (first | ((refine wpList_on (o := ⟨_, .store 39 _ _, _, _, _, _⟩) rfl (fun K hK => ?_)); (try simp only [Act.put, List.setIfInBounds_toArray, List.set_cons_zero, List.set_cons_succ]); refine wp_store_part (k := 2) (l1 := [_]) (cs' := row 8 (subI ((best : Int) - 20) n at_)) H 39 _ _ rfl rfl rfl (by rw [row_size]; kernel_rfl) (by simp [row_size]) (row_oneCell _ _) (subI_put _ _ _) ?_; clear H; intro u H; refine hK _ _ ?_; clear hK K; (try simp only [List.cons_append, List.nil_append] at H)) | ((refine wpList_on (o := ⟨_, .store 3 _ _, _, _, _, _⟩) rfl (fun K hK => ?_)); (try simp only [Act.put, List.setIfInBounds_toArray, List.set_cons_zero, List.set_cons_succ]); refine wp_store_row_ (l1 := [_]) H 3 _ _ rfl rfl rfl (by kernel_rfl) (by omega) ?_; clear H; intro u H; refine hK _ _ ?_; clear hK K; (try simp only [List.cons_append, List.nil_append] at H)) | ((refine wpList_on (o := ⟨_, .load 39 _, _, _, _, _⟩) rfl (fun K hK => ?_)); (try simp only [Act.put, List.setIfInBounds_toArray, List.set_cons_zero, List.set_cons_succ]); refine wp_load_part (n := 4) H 39 _ rfl rfl (by repeat (first | exact List.mem_cons_self | apply List.mem_cons_of_mem | apply List.mem_append_right)) (by kernel_rfl) (by simp [row_size]) (subS_part ((best : Int) - 20) n at_ si) ?_; refine hK _ _ ?_; clear hK K) | ((refine wpList_on (o := ⟨_, .load 3 _, _, _, _, _⟩) rfl (fun K hK => ?_)); (try simp only [Act.put, List.setIfInBounds_toArray, List.set_cons_zero, List.set_cons_succ]); refine wp_load_one (g := g18) (i := 6) (v := .int .i64 si) H 3 _ rfl rfl (by repeat (first | exact List.mem_cons_self | apply List.mem_cons_of_mem | apply List.mem_append_right)) (by kernel_rfl) (row_get (n := 8) (i := 6) (subS ((best : Int) - 20) n at_ si) (by omega)) ?_; refine hK _ _ ?_; clear hK K) | (go_at_call 77; (with_reducible refine (Build_any at_ si 4096 _ HV.out s0 s1 (by omega) (by omega)).mono ?_); rintro e w1 ⟨go, rfl, hb⟩; replace H := H.join hb; clear hb; (try simp only [List.cons_append, List.nil_append] at H)))
  refine (chooser_any rg (buildS at_ si 4096 4) gb (fun i _ => hr1.out i) (fun i _ => build_in _ _ _) (cell_of H (by repeat (first | exact List.mem_cons_self | apply List.mem_cons_of_mem | apply List.mem_append_right))) (lies_cells H (by repeat (first | exact List.mem_cons_self | apply List.mem_cons_of_mem | apply List.mem_append_right)) HCR.out) (H.lies List.mem_cons_self (Nat.le_refl _))).mono ?_
  rintro e u ⟨vf, tl, rfl, RO, hb⟩
  obtain ⟨gf, capf, csf, rfl, rfl, hcapf, hszf, hcsf⟩ := RO.some_ (by omega)
  clear RO hszf hcapf
  replace H := H.join hb
  clear hb
  simp only [List.cons_append, List.nil_append] at H
  have hfo : Hid (∀ i, In16 (foldOut rg (buildS at_ si 4096 4) i)) := fun i => foldOut_bd _ _ i
  generalize foldOut rg (buildS at_ si 4096 4) = fo at *
  replace H := H.sub (bs' := [(gf, 3, csf), (gt2, 3, row 40 t2), (g18, 41, row 8 (subS ((best : Int) - 20) n at_ si)), (gb, 35, #[.slice (some ⟨gr, 0, none⟩) 40 capr]), (gr, 3, csr), (g6, 41, row 8 fun _ => 0)]) (by repeat (first | exact List.Sublist.refl _ | exact List.nil_sublist _ | apply List.Sublist.cons_cons | apply List.Sublist.cons))
  have b1 := dotC_bd (a := t2) (b := fo) (fun i _ => ht2.out i) (fun i _ => hfo.out i)
  have b2 := dotC_bd (a := fo) (b := fo) (fun i _ => hfo.out i) (fun i _ => hfo.out i)
  have cD1 := Lib.hid (fun (v v' : Value) (w : World) (L : Lies w v 40 t2) (L' : Lies w v' 40 fo) => dot_any t2 fo (fun i _ => ht2.out i) (fun i _ => hfo.out i) L L')
  have cD2 := Lib.hid (fun (v v' : Value) (w : World) (L : Lies w v 40 fo) (L' : Lies w v' 40 fo) => dot_any fo fo (fun i _ => hfo.out i) (fun i _ => hfo.out i) L L')
  generalize dotC t2 fo 40 = d1 at *
  generalize dotC fo fo 40 = d2 at *
  have HCF := Lib.hid hcsf
  clear hcsf
  have hm : IntKind.i64.wrap (d1 * 4096) = d1 * 4096 := IntWalk.i64_in _ (by omega)
  go_wp2_with (first | (go_at_call 79; (with_reducible refine (cD1.out _ _ _ (H.lies (by repeat (first | exact List.mem_cons_self | apply List.mem_cons_of_mem | apply List.mem_append_right)) (Nat.le_refl _)) (lies_cells H (by repeat (first | exact List.mem_cons_self | apply List.mem_cons_of_mem | apply List.mem_append_right)) HCF.out)).mono ?_); rintro e w1 ⟨rfl, rfl⟩) | (go_at_call 79; (with_reducible refine (cD2.out _ _ _ (lies_cells H (by repeat (first | exact List.mem_cons_self | apply List.mem_cons_of_mem | apply List.mem_append_right)) HCF.out) (lies_cells H (by repeat (first | exact List.mem_cons_self | apply List.mem_cons_of_mem | apply List.mem_append_right)) HCF.out)).mono ?_); rintro e w1 ⟨rfl, rfl⟩) | (go_at_call 78; (with_reducible refine (GOne_ex (d1 * 4096) d2 _ (hT.has H) (by omega) (by omega)).mono ?_); rintro e w1 ⟨lv, lv0, lv1, rfl, rfl⟩) | ((refine wpList_on (o := ⟨_, .store 3 _ _, _, _, _, _⟩) rfl (fun K hK => ?_)); (try simp only [Act.put, List.setIfInBounds_toArray, List.set_cons_zero, List.set_cons_succ]); refine wp_store_row_ (l1 := [_, _]) H 3 _ _ rfl rfl rfl (by kernel_rfl) (by omega) ?_; clear H; intro u H; refine hK _ _ ?_; clear hK K; (try simp only [List.cons_append, List.nil_append] at H)) | ((refine wpList_on (o := ⟨_, .load 41 _, _, _, _, _⟩) rfl (fun K hK => ?_)); (try simp only [Act.put, List.setIfInBounds_toArray, List.set_cons_zero, List.set_cons_succ]); refine wp_load_all H 41 _ rfl rfl (by repeat (first | exact List.mem_cons_self | apply List.mem_cons_of_mem | apply List.mem_append_right)) (by kernel_rfl) ?_; refine hK _ _ ?_; clear hK K) | ((refine wpList_on (o := ⟨_, .store 41 _ _, _, _, _, _⟩) rfl (fun K hK => ?_)); (try simp only [Act.put, List.setIfInBounds_toArray, List.set_cons_zero, List.set_cons_succ]); refine wp_store_all (l1 := [_, _, _, _, _]) H 41 _ _ rfl rfl rfl (by kernel_rfl) (by simp [row_size]) (row_one _ _) ?_; clear H; intro u H; refine hK _ _ ?_; clear hK K; (try simp only [List.cons_append, List.nil_append] at H)))
  refine bodyPost_ret (results_one rfl _ H rfl (by repeat (first | exact List.mem_cons_self | apply List.mem_cons_of_mem | apply List.mem_append_right)) (by kernel_rfl)) rfl ⟨subL ((best : Int) - 20) n at_ si lv, subL_ok (by omega) ⟨n0, n1⟩ HV.out ⟨s0, s1⟩ ⟨lv0, lv1⟩, rfl, H.below⟩
end Go.Proofs.YtcoicmbjoaonoaaDoor
