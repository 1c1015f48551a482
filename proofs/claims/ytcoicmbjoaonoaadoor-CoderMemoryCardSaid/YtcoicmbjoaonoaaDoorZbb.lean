/-
  Several texts of this claim, one behind the other: Codes, Decode, Erase, MemEq. No statement is proved here.
-/
import Derived.Test.YtcoicmbjoaonoaaDoorZba
import Derived.Test.YtcoicmbjoaonoaaDoorZah
import Derived.Test.YtcoicmbjoaonoaaDoorZas
import Derived.Test.YtcoicmbjoaonoaaDoorZar
import Derived.Test.YtcoicmbjoaonoaaDoorZad
import Derived.Test.YtcoicmbjoaonoaaDoorZae
/-
  coder.Begin, coder.Encode as one, codes walked. No statement is proved here.
-/
namespace Go.Proofs.YtcoicmbjoaonoaaDoor
set_option linter.unusedVariables false
set_option linter.unusedSimpArgs false
open Go.RowKit
set_option maxRecDepth 100000
theorem Encode_any (q n f l : Nat → Int) (s r : Bool) {v : Value} {w : World} (hE : EncOk q n f) (hl : ∀ i, i < 80 → In16 (l i)) (L : Lies w v 80 l) (hT : Roots w) (hP : Gains w) (hW : Widths w) :
    Calls Tryd.prog 12 #[.agg (encA q n f s), v, .bool r] w (EncPost (hpF (hpS l (hpOf q) 80)) f (kindE r l q) w) := by
  obtain ⟨P, cap, b, o, rfl, R⟩ := L
  have ef : EncFront q l f (hpF (hpS l (hpOf q) 80)) (hpOut l (hpOf q)) s P cap w := ⟨fun u => Good_any f s u hE.mem, fun u hb => High_yes q l P 80 cap b o u (by omega) hE.high hl (R.below hb), fun i => hpOut_in _ _ i⟩
  unfold kindE
  cases r
  · rw [if_neg (by decide)]
    by_cases hk : sqS (hpOut l (hpOf q)) 80 < 1280
    · rw [if_pos hk]
      exact encode_2 q n f l _ _ s P cap w ef hE.inp hk hE.mem hT hP hW
    · rw [if_neg hk]
      exact encode_0 q n f l _ _ s P cap w ef hE.inp hk hE.mem hT hP hW
  · rw [if_pos rfl]
    exact encode_1 q n f l _ _ s P cap w ef hE.inp hE.mem hT hP hW
def Z0 (_ : Nat) : Int := 0
theorem hp_zero : ∀ k, hpS Z0 ⟨0, 0, 0, 0⟩ k = ⟨0, 0, 0, 0⟩
  | 0 => rfl
  | k + 1 => by
    show hpStep (hpS Z0 ⟨0, 0, 0, 0⟩ k) 0 = ⟨0, 0, 0, 0⟩
    rw [hp_zero k]
    rfl
theorem hpOut_zero (i : Nat) : hpOut Z0 ⟨0, 0, 0, 0⟩ i = 0 := by
  unfold hpOut
  rw [hp_zero i]
  rfl
theorem hpF_zero : hpF ⟨0, 0, 0, 0⟩ = Z0 := by
  funext i
  unfold hpF Z0
  split
  · rfl
  · split
    · rfl
    · split <;> rfl
theorem sqS_zero (f : Nat → Int) (h : ∀ i, f i = 0) : ∀ n, sqS f n = 0
  | 0 => rfl
  | n + 1 => by
    show sqS f n + f n * f n = 0
    rw [sqS_zero f h n, h n]
    rfl
theorem Z0_in (i : Nat) : In16 (Z0 i) := by unfold Z0 In16; omega
theorem Encode_zero (n f : Nat → Int) (s r : Bool) {v : Value} {w : World} (hn : ∀ i, i < 120 → In16 (n i)) (hG : GoodM f) (L : Lies w v 80 Z0) (hT : Roots w) (hP : Gains w) (hW : Widths w) :
    Calls Tryd.prog 12 #[.agg (encA Z0 n f s), v, .bool r] w (EncPost Z0 f (if r = true then 1 else 2) w) := by
  have h := Encode_any Z0 n f Z0 s r ⟨fun i _ => Z0_in i, hn, hG⟩ (fun i _ => Z0_in i) L hT hP hW
  have e0 : hpOf Z0 = ⟨0, 0, 0, 0⟩ := rfl
  unfold kindE at h
  rw [e0, hp_zero, hpF_zero, sqS_zero _ hpOut_zero, if_pos (show (0 : Int) < 1280 by omega)] at h
  exact h
set_option maxHeartbeats 3200000 in
theorem Begin_any (w : World) : Calls Tryd.prog 10 #[] w fun e w' => e = .returned (.agg (encA Z0 Z0 freshF false)) ∧ Below w.heap.size w w' := by
  have H := Has.start w
  go_enter Tryd.func10, Tryd.ntmps10
  go_wp2_with (first | (refine wpList_on (o := ⟨some 0, .alloc 31, _, _, _, _⟩) rfl (fun K hK => ?_); refine wp_alloc H 31 rfl (z := (.agg (encA Z0 Z0 Z0 false))) (by kernel_rfl) ?_; clear H; intro u g0 H; refine hK _ _ ?_; clear hK K; try simp only [Value.cells, List.cons_append, List.nil_append] at H) | (go_at_call 29; (with_reducible refine (Fresh_any _).mono ?_); rintro e w1 ⟨rfl, hb⟩; replace H := H.callee hb; clear hb) | ((refine wpList_on (o := ⟨_, .store 31 _ _, _, _, _, _⟩) rfl (fun K hK => ?_)); (try simp only [Act.put, List.setIfInBounds_toArray, List.set_cons_zero, List.set_cons_succ]); refine wp_store_all (l1 := []) (cs' := encA Z0 Z0 freshF false) H 31 _ _ rfl rfl (by kernel_rfl) (by rw [encA_size]; kernel_rfl) (by rw [encA_size, encA_size]) (encA_one _ _ _ _) ?_; clear H; intro u H; refine hK _ _ ?_; clear hK K; (try simp only [List.cons_append, List.nil_append] at H)))
  refine bodyPost_ret (results_one rfl _ H rfl (by repeat (first | exact List.mem_cons_self | apply List.mem_cons_of_mem | apply List.mem_append_right)) (by rw [encA_size]; kernel_rfl)) rfl ⟨rfl, H.below⟩
theorem frS_2 {P : Nat → Nat} {k : Nat} (h : PkE P k) (hk : k = 2) : frS (packI P) = true := by
  unfold frS packI
  rw [h.kind, hk]
  rfl
/-- What is left of an Encode when its answer is looked at. -/
structure Coded (w u : World) (g : Nat) (t : TypeId) (n f : Nat → Int) (s : Bool) : Prop where
  inp : ∀ i, i < 120 → In16 (n i)
  mem : GoodM f
  has : Has w u [(g, t, encA Z0 n f s)]
set_option maxHeartbeats 6400000 in
theorem codes_any (w : World) (hT : Roots w) (hP : Gains w) (hW : Widths w) : Calls Tryd.prog 25 #[] w fun e w' => e = .returned (.bool true) ∧ Below w.heap.size w w' := by
  have H := Has.start w
  have cE := Lib.hid (fun (v : Value) (u : World) (L : Lies u v 80 fun _ => 0) (hT : Roots u) (hP : Gains u) (hW : Widths u) => show Calls Tryd.prog 12 #[.agg (encA Z0 Z0 freshF false), v, .bool false] u (EncPost Z0 freshF 2 u) from Encode_zero Z0 freshF false false (fun i _ => Z0_in i) fresh_good L hT hP hW)
  go_enter Tryd.func25, Tryd.ntmps25
  go_wp2_with fail
  refine' cut_ _ (fun hcut => _) _; rotate_left
  · refine wp_region_ordT [] [] (fun w' => Has w w' []) [(0, 1), (0, 2), (0, 8), (1, 2), (1, 8), (2, 8)] [[8, 0, 1, 2, 3, 4, 5, 6, 7, 9, 10, 11, 12], [0, 8, 1, 2, 3, 4, 5, 6, 7, 9, 10, 11, 12], [0, 1, 8, 2, 3, 4, 5, 6, 7, 9, 10, 11, 12], [0, 1, 2, 8, 3, 4, 5, 6, 7, 9, 10, 11, 12], [8, 1, 0, 2, 3, 4, 5, 6, 7, 9, 10, 11, 12], [1, 8, 0, 2, 3, 4, 5, 6, 7, 9, 10, 11, 12], [1, 0, 8, 2, 3, 4, 5, 6, 7, 9, 10, 11, 12], [1, 0, 2, 8, 3, 4, 5, 6, 7, 9, 10, 11, 12]] (by kernel_rfl) (by kernel_rfl) (by kernel_rfl) ?_; replace H := H.drew; generalize World.drew _ = u at *; simp only [List.forall_mem_cons, List.not_mem_nil, false_imp_iff, implies_true, and_true]; (repeat' (with_reducible refine And.intro ?_ ?_))
    all_goals repeat (first | (refine sq_keep (o := ⟨_, .call _, _, _, _, _⟩) rfl rfl rfl (fun K hK => ?_); go_simp; (go_at_call 10; (with_reducible refine (Begin_any _).mono ?_); rintro e u ⟨rfl, hb⟩; replace H := H.callee hb; clear hb); refine hK _ _ (H.sub (by repeat (first | exact List.Sublist.refl _ | exact List.nil_sublist _ | apply List.Sublist.cons_cons | apply List.Sublist.cons | refine List.Sublist.trans ?_ (List.sublist_append_right _ _)))) ?_; clear hK K; try simp only [Act.put, List.setIfInBounds_toArray, List.set_cons_zero, List.set_cons_succ]) | ((refine sq_keep (o := ⟨some 7, .makeSlice _ _ _, _, _, _, _⟩) rfl rfl rfl (fun K hK => ?_); refine wp_make_has (t_ := 35) (e := 3) H _ _ rfl 80 .i64 .i64 rfl rfl ?_ ?_ ?_ ?_ ?_; (kernel_rfl); (kernel_rfl); (omega); (omega); (clear H; intro u gm H; (try simp only [Value.cells, List.cons_append, List.nil_append] at H); refine hK _ _ (H.sub (by repeat (first | exact List.Sublist.refl _ | exact List.nil_sublist _ | apply List.Sublist.cons_cons | apply List.Sublist.cons | refine List.Sublist.trans ?_ (List.sublist_append_right _ _)))) ?_; clear hK K; simp only [Act.put, List.setIfInBounds_toArray, List.set_cons_zero, List.set_cons_succ])); simp only [show Int.toNat 80 = 80 from rfl] at H ⊢) | (refine sq_keep (o := ⟨some 1, .alloc 31, _, _, _, _⟩) rfl rfl rfl (fun K hK => ?_); refine wp_alloc H 31 rfl (z := (.agg (encA Z0 Z0 Z0 false))) (by kernel_rfl) ?_; clear H; intro u g1 H; (try simp only [Value.cells, List.cons_append, List.nil_append] at H); refine hK _ _ (H.sub (by repeat (first | exact List.Sublist.refl _ | exact List.nil_sublist _ | apply List.Sublist.cons_cons | apply List.Sublist.cons | refine List.Sublist.trans ?_ (List.sublist_append_right _ _)))) ?_; clear hK K; simp only [Act.put, List.setIfInBounds_toArray, List.set_cons_zero, List.set_cons_succ]) | (refine sq_keep (o := ⟨_, .call _, _, _, _, _⟩) rfl rfl rfl (fun K hK => ?_); go_simp; (go_at_call 12; (with_reducible refine (cE.out _ _ (H.lies (by repeat (first | exact List.mem_cons_self | apply List.mem_cons_of_mem | apply List.mem_append_right)) (Nat.le_refl _)) (hT.has H) (hP.has H) (hW.has H)).mono ?_); rintro e u ⟨n', P, gp, vo, tl, hn, hp, rfl, RO, hb⟩; obtain ⟨q80, cap80, rfl, hcp⟩ := RO.shape; clear RO hcp; replace H := H.joinR hb; clear hb; (try simp only [List.cons_append, List.nil_append] at H)); refine hK _ _ (H.sub (by repeat (first | exact List.Sublist.refl _ | exact List.nil_sublist _ | apply List.Sublist.cons_cons | apply List.Sublist.cons | refine List.Sublist.trans ?_ (List.sublist_append_right _ _)))) ?_; clear hK K; try simp only [Act.put, List.setIfInBounds_toArray, List.set_cons_zero, List.set_cons_succ]) | (refine sq_eff (o := ⟨_, .store 31 _ _, _, _, _, _⟩) rfl rfl rfl (fun K hK => ?_); (first | refine wp_store_all (l1 := []) H 31 _ _ rfl rfl rfl (by rw [encA_size]; kernel_rfl) (by rw [encA_size, encA_size]) (encA_one _ _ _ _) ?_ | refine wp_store_all (l1 := [_]) H 31 _ _ rfl rfl rfl (by rw [encA_size]; kernel_rfl) (by rw [encA_size, encA_size]) (encA_one _ _ _ _) ?_); clear H; intro u H; (try simp only [List.cons_append, List.nil_append] at H); refine hK _ _ ?_; clear hK K; simp only [Act.put, List.setIfInBounds_toArray, List.set_cons_zero, List.set_cons_succ]) | (refine sq_free (o := ⟨_, _, _, _, _, _⟩) (v := ?_) rfl rfl rfl ?_ ?_; rotate_left; (intro w'; go_simp; try with_reducible rfl); simp only [Act.put, List.setIfInBounds_toArray, List.set_cons_zero, List.set_cons_succ]))
    all_goals refine sq_nil ?_
    all_goals replace H := H.sub (bs' := [(g1, 31, encA Z0 n' (frM freshF (packI P)) (frS (packI P)))]) (by repeat (first | exact List.Sublist.refl _ | exact List.nil_sublist _ | apply List.Sublist.cons_cons | apply List.Sublist.cons))
    all_goals clear hn
    · revert hp H
      revert g1 gm n' P gp q80 cap80 u
      exact hcut.out
    all_goals exact hcut.out _ _ _ _ _ _ _ _ hp H
  clear H cE
  intro g1 gm n' P gp q80 cap80 u hp H
  rw [frS_2 hp rfl] at H
  go_wp2_with ((refine wpList_on (o := ⟨_, .load 4 _, _, _, _, _⟩) rfl (fun K hK => ?_)); (try simp only [Act.put, List.setIfInBounds_toArray, List.set_cons_zero, List.set_cons_succ]); refine wp_load_one (g := g1) (i := 225) (v := .bool true) H 4 _ rfl rfl (by repeat (first | exact List.mem_cons_self | apply List.mem_cons_of_mem | apply List.mem_append_right)) (by kernel_rfl) (encA_bool _ _ _ _) ?_; refine hK _ _ ?_; clear hK K)
  go_ret
  exact ⟨rfl, H.below⟩
end Go.Proofs.YtcoicmbjoaonoaaDoor
/-
  coder.Decode walked. No statement is proved here.
-/
namespace Go.Proofs.YtcoicmbjoaonoaaDoor
set_option linter.unusedVariables false
set_option linter.unusedSimpArgs false
open Go.RowKit
set_option maxRecDepth 100000
/-- What Decode leaves where the bytes are right. -/
def DecPost (f p : Nat → Int) (w : World) (e : Ending) (w' : World) : Prop := ∃ v tl, e = .returned (.tuple #[.agg (memA (frM f p) (frS p)), v, .int .i64 0]) ∧ Rowed 3 1 v 80 (fun i => .int .i64 (frO f p i)) tl ∧ Has w w' tl
set_option maxHeartbeats 3200000 in
theorem Decode_ok (f : Nat → Int) (s : Bool) (P : Nat → Nat) (g : Nat) (w : World) (hG : GoodM f) (hp : ∀ j, j < 25 → P j ≤ mostF j) (hT : Roots w) (hP : Gains w) (hW : Widths w) (cap : Nat) (hcap : 15 ≤ cap) (hB : Bytes w g 15 (packB P (parP P))) :
    Calls Tryd.prog 17 #[.agg (memA f s), .slice (some ⟨g, 0, none⟩) 15 cap] w (DecPost f (packI P) w) := by
  have H := Has.start w
  have c0 := Lib.hid (fun w : World => Good_any f s w hG)
  have c1 := Lib.hid (fun (u : World) (H : Has w u []) => show Calls Tryd.prog 13 #[.slice (some ⟨g, 0, none⟩) 15 cap] u fun e w' => e = .returned (.tuple #[.agg (row 25 (packI P)), .int .i64 0]) ∧ Below u.heap.size u w' from by
    have h := Unpack_any g cap (packB P (parP P)) u (hW.has H) (packB_lt P) (hB.has H) hcap
    unfold UnpPost at h
    rw [pack_back hp, pack_code hp] at h
    exact h)
  have c2 := Lib.hid (fun (u : World) (H : Has w u []) => frame_any f (packI P) s u hG (pkOk_of hp) (hT.has H) (hP.has H) (hW.has H))
  clear hG hp hB
  go_enter Tryd.func17, Tryd.ntmps17
  go_wp2_with (first | ((refine wpList_on (o := ⟨_, .box _ (.tmp 0), _, _, _, _⟩) rfl (fun K hK => ?_)); (try simp only [Act.put, List.setIfInBounds_toArray, List.set_cons_zero, List.set_cons_succ]); refine wp_box H _ (.tmp 0) rfl (v := .agg (memA _ _)) rfl ?_; clear H; intro u g2 H; refine hK _ _ ?_; clear hK K; try simp only [Value.cells, List.cons_append, List.nil_append] at H) | (refine wpList_on (o := ⟨some 4, .alloc 29, _, _, _, _⟩) rfl (fun K hK => ?_); refine wp_alloc H 29 rfl (z := (.agg (memA (fun _ => 0) false))) (by kernel_rfl) ?_; clear H; intro u g4 H; refine hK _ _ ?_; clear hK K; try simp only [Value.cells, List.cons_append, List.nil_append] at H) | ((refine wpList_on (o := ⟨_, .load 29 _, _, _, _, _⟩) rfl (fun K hK => ?_)); (try simp only [Act.put, List.setIfInBounds_toArray, List.set_cons_zero, List.set_cons_succ]); refine wp_load_all H 29 _ rfl rfl (by repeat (first | exact List.mem_cons_self | apply List.mem_cons_of_mem | apply List.mem_append_right)) (by rw [memA_size]; kernel_rfl) ?_; refine hK _ _ ?_; clear hK K) | (go_at_call 21; (with_reducible refine (c0.out _).mono ?_); rintro e w1 ⟨rfl, hb⟩; replace H := H.callee hb; clear hb) | (go_at_call 13; (with_reducible refine (c1.out _ (H.sub (List.nil_sublist _))).mono ?_); rintro e w1 ⟨rfl, hb⟩; replace H := H.callee hb; clear hb) | (refine wpList_on (o := ⟨some 7, .alloc 44, _, _, _, _⟩) rfl (fun K hK => ?_); refine wp_alloc H 44 rfl (z := (.agg (row 25 fun _ => 0))) (by kernel_rfl) ?_; clear H; intro u g7 H; refine hK _ _ ?_; clear hK K; try simp only [Value.cells, List.cons_append, List.nil_append] at H) | ((refine wpList_on (o := ⟨_, .store 44 _ _, _, _, _, _⟩) rfl (fun K hK => ?_)); (try simp only [Act.put, List.setIfInBounds_toArray, List.set_cons_zero, List.set_cons_succ]); refine wp_store_all (l1 := []) H 44 _ _ rfl rfl rfl (by kernel_rfl) (by simp [row_size]) (row_one _ _) ?_; clear H; intro u H; refine hK _ _ ?_; clear hK K; try simp only [Value.cells, List.cons_append, List.nil_append] at H) | ((refine wpList_on (o := ⟨_, .load 44 _, _, _, _, _⟩) rfl (fun K hK => ?_)); (try simp only [Act.put, List.setIfInBounds_toArray, List.set_cons_zero, List.set_cons_succ]); refine wp_load_all H 44 _ rfl rfl (by repeat (first | exact List.mem_cons_self | apply List.mem_cons_of_mem | apply List.mem_append_right)) (by kernel_rfl) ?_; refine hK _ _ ?_; clear hK K) | (go_at_call 42; (with_reducible refine (c2.out _ (H.sub (List.nil_sublist _))).mono ?_); rintro e w1 ⟨vo, tl, rfl, RO, hb⟩; replace H := H.joinR hb; clear hb; (try simp only [List.cons_append, List.nil_append] at H)) | ((refine wpList_on (o := ⟨_, .store 29 (.tmp 2) _, _, _, _, _⟩) rfl (fun K hK => ?_)); (try simp only [Act.put, List.setIfInBounds_toArray, List.set_cons_zero, List.set_cons_succ]); refine wp_store_all (l1 := [_, _]) H 29 _ _ rfl rfl rfl (by rw [memA_size]; kernel_rfl) (by rw [memA_size, memA_size]) (memA_one _ _) ?_; clear H; intro u H; refine hK _ _ ?_; clear hK K; (try simp only [List.cons_append, List.nil_append] at H)) | ((refine wpList_on (o := ⟨_, .store 29 (.tmp 4) _, _, _, _, _⟩) rfl (fun K hK => ?_)); (try simp only [Act.put, List.setIfInBounds_toArray, List.set_cons_zero, List.set_cons_succ]); refine wp_store_all (l1 := [_]) H 29 _ _ rfl rfl rfl (by rw [memA_size]; kernel_rfl) (by rw [memA_size, memA_size]) (memA_one _ _) ?_; clear H; intro u H; refine hK _ _ ?_; clear hK K; (try simp only [List.cons_append, List.nil_append] at H)))
  refine bodyPost_ret (results_has3 rfl _ H rfl (by repeat (first | exact List.mem_cons_self | apply List.mem_cons_of_mem | apply List.mem_append_right)) (by rw [memA_size]; kernel_rfl)) rfl ⟨vo, tl, rfl, RO, H.sub (by repeat (first | exact List.Sublist.refl _ | apply List.Sublist.cons))⟩
end Go.Proofs.YtcoicmbjoaonoaaDoor
/-
  coder: Erase walked; Decode where the bytes are refused. No statement is proved here.
-/
namespace Go.Proofs.YtcoicmbjoaonoaaDoor
set_option linter.unusedVariables false
set_option linter.unusedSimpArgs false
open Go.RowKit
set_option maxRecDepth 100000
def expG (a : Nat → Int) (i : Nat) : Int := (a i * expF 32440 i + 16384) / 32768
theorem expG_ok {a : Nat → Int} (h : FilOk a) : FilOk (expG a) := by
  refine ⟨?_, fun i hi => ?_⟩
  · unfold expG expF
    rw [h.head]; rfl
  · have h1 := h.bd i hi
    have h2 := expF_bd 32440 (by omega) (by omega) i
    have h3 := mul_bd (a i) (expF 32440 i) 1048576 32768 (by omega) (by omega) (by omega) (by omega)
    unfold expG
    omega
def eA (f : Nat → Int) : Nat → Int := expG (dirOut f)
def eN (f : Nat → Int) (h : Int) : Nat → Int := er2 (er1 f h)
def eX (f : Nat → Int) (h : Int) : Nat → Int := erE (er1 f h)
def eB (f : Nat → Int) : Nat → Int := plM (eN f 0) (eA f) (eX f 0)
def eC (f : Nat → Int) : Nat → Int := plM (eN (eB f) 1) (eA f) (eX (eB f) 1)
def eO (f : Nat → Int) : Nat → Int := outN (plO (eN f 0) (eA f) (eX f 0)) (plO (eN (eB f) 1) (eA f) (eX (eB f) 1))
theorem eN_good {f : Nat → Int} (h : GoodM f) (k : Int) : GoodM (eN f k) := er2_good (er1_good h k)
theorem eB_good {f : Nat → Int} (h : GoodM f) : GoodM (eB f) := plM_good (eN_good h 0)
theorem eC_good {f : Nat → Int} (h : GoodM f) : GoodM (eC f) := plM_good (eN_good (eB_good h) 1)
theorem eO_in (f : Nat → Int) (i : Nat) : In16 (eO f i) := outN_in (plO_in _ _ _) (plO_in _ _ _) i
def EraPost (f : Nat → Int) (s : Bool) (w : World) (e : Ending) (w' : World) : Prop := ∃ v tl, e = .returned (.tuple #[.agg (memA (eC f) s), v, .int .i64 0]) ∧ Rowed 3 1 v 80 (fun i => .int .i64 (eO f i)) tl ∧ Has w w' tl
set_option maxHeartbeats 12800000 in
theorem erase_in (f a mB mC nA nB xA xB oA oB d : Nat → Int) (s : Bool) (w : World)
    (c0 : ∀ w : World, Calls Tryd.prog 21 #[.agg (memA f s)] w fun e w' => e = .returned (.bool true) ∧ Below w.heap.size w w')
    (c1 : ∀ w : World, Calls Tryd.prog 48 #[.agg (row 8 f)] w fun e w' => e = .returned (.tuple #[.agg (row 9 d), .int .i64 0]) ∧ Below w.heap.size w w')
    (c2 : ∀ w : World, Calls Tryd.prog 49 #[.agg (row 9 d), .int .i64 32440] w fun e w' => e = .returned (.tuple #[.agg (row 9 a), .int .i64 0]) ∧ Below w.heap.size w w')
    (cE0 : ∀ w : World, Calls Tryd.prog 50 #[.agg (memA f s), .int .i64 0] w fun e w' => ∃ g, e = .returned (.tuple #[.agg (memA nA s), .slice (some ⟨g, 0, none⟩) 40 40, .int .i64 0]) ∧ Has w w' [(g, 3, row 40 xA)])
    (cE1 : ∀ w : World, Calls Tryd.prog 50 #[.agg (memA mB s), .int .i64 1] w fun e w' => ∃ g, e = .returned (.tuple #[.agg (memA nB s), .slice (some ⟨g, 0, none⟩) 40 40, .int .i64 0]) ∧ Has w w' [(g, 3, row 40 xB)])
    (cP0 : ∀ (v : Value) (w : World), Lies w v 40 xA → Calls Tryd.prog 51 #[.agg (memA nA s), .agg (row 9 a), v] w fun e w' => ∃ v tl, e = .returned (.tuple #[.agg (memA mB s), v]) ∧ Rowed 3 1 v 40 (fun i => .int .i64 (oA i)) tl ∧ Has w w' tl)
    (cP1 : ∀ (v : Value) (w : World), Lies w v 40 xB → Calls Tryd.prog 51 #[.agg (memA nB s), .agg (row 9 a), v] w fun e w' => ∃ v tl, e = .returned (.tuple #[.agg (memA mC s), v]) ∧ Rowed 3 1 v 40 (fun i => .int .i64 (oB i)) tl ∧ Has w w' tl) :
    Calls Tryd.prog 20 #[.agg (memA f s)] w fun e w' => ∃ v tl, e = .returned (.tuple #[.agg (memA mC s), v, .int .i64 0]) ∧ Rowed 3 1 v 80 (fun i => .int .i64 (outN oA oB i)) tl ∧ Has w w' tl := by
  have H := Has.start w
  replace c0 := Lib.hid c0
  replace c1 := Lib.hid c1
  replace c2 := Lib.hid c2
  replace cE0 := Lib.hid cE0
  replace cE1 := Lib.hid cE1
  replace cP0 := Lib.hid cP0
  replace cP1 := Lib.hid cP1
  go_enter Tryd.func20, Tryd.ntmps20
  go_wp2_with (first | ((refine wpList_on (o := ⟨_, .box _ (.tmp 0), _, _, _, _⟩) rfl (fun K hK => ?_)); (try simp only [Act.put, List.setIfInBounds_toArray, List.set_cons_zero, List.set_cons_succ]); refine wp_box H _ (.tmp 0) rfl (v := .agg (memA _ _)) rfl ?_; clear H; intro u g1 H; refine hK _ _ ?_; clear hK K; try simp only [Value.cells, List.cons_append, List.nil_append] at H) | (refine wpList_on (o := ⟨some 2, .alloc 29, _, _, _, _⟩) rfl (fun K hK => ?_); refine wp_alloc H 29 rfl (z := (.agg (memA (fun _ => 0) false))) (by kernel_rfl) ?_; clear H; intro u g2 H; refine hK _ _ ?_; clear hK K; try simp only [Value.cells, List.cons_append, List.nil_append] at H) | ((refine wpList_on (o := ⟨_, .load 29 _, _, _, _, _⟩) rfl (fun K hK => ?_)); (try simp only [Act.put, List.setIfInBounds_toArray, List.set_cons_zero, List.set_cons_succ]); refine wp_load_all H 29 _ rfl rfl (by repeat (first | exact List.mem_cons_self | apply List.mem_cons_of_mem | apply List.mem_append_right)) (by rw [memA_size]; kernel_rfl) ?_; refine hK _ _ ?_; clear hK K) | (go_at_call 21; (with_reducible refine (c0.out _).mono ?_); rintro e w1 ⟨rfl, hb⟩; replace H := H.callee hb; clear hb) | ((refine wpList_on (o := ⟨_, .load 26 (.tmp 16), _, _, _, _⟩) rfl (fun K hK => ?_)); (try simp only [Act.put, List.setIfInBounds_toArray, List.set_cons_zero, List.set_cons_succ]); refine wp_load_part (n := 8) H 26 _ rfl rfl (by repeat (first | exact List.mem_cons_self | apply List.mem_cons_of_mem | apply List.mem_append_right)) (by kernel_rfl) (by rw [memA_size]; omega) (memA_refl _ _) ?_; refine hK _ _ ?_; clear hK K) | (go_at_call 48; (with_reducible refine (c1.out _).mono ?_); rintro e w1 ⟨rfl, hb⟩; replace H := H.callee hb; clear hb) | (refine wpList_on (o := ⟨some 5, .alloc 77, _, _, _, _⟩) rfl (fun K hK => ?_); refine wp_alloc H 77 rfl (z := (.agg (row 9 fun _ => 0))) (by kernel_rfl) ?_; clear H; intro u g5 H; refine hK _ _ ?_; clear hK K; try simp only [Value.cells, List.cons_append, List.nil_append] at H) | ((refine wpList_on (o := ⟨_, .store 77 _ _, _, _, _, _⟩) rfl (fun K hK => ?_)); (try simp only [Act.put, List.setIfInBounds_toArray, List.set_cons_zero, List.set_cons_succ]); refine wp_store_all (l1 := []) H 77 _ _ rfl rfl rfl (by kernel_rfl) (by simp [row_size]) (row_one _ _) ?_; clear H; intro u H; refine hK _ _ ?_; clear hK K; try simp only [Value.cells, List.cons_append, List.nil_append] at H) | ((refine wpList_on (o := ⟨_, .load 77 _, _, _, _, _⟩) rfl (fun K hK => ?_)); (try simp only [Act.put, List.setIfInBounds_toArray, List.set_cons_zero, List.set_cons_succ]); refine wp_load_all H 77 _ rfl rfl (by repeat (first | exact List.mem_cons_self | apply List.mem_cons_of_mem | apply List.mem_append_right)) (by kernel_rfl) ?_; refine hK _ _ ?_; clear hK K) | (go_at_call 49; (with_reducible refine (c2.out _).mono ?_); rintro e w1 ⟨rfl, hb⟩; replace H := H.callee hb; clear hb))
  have RO0 : Rowed 3 1 (.slice none 0 0) (40 * 0) (fun i => .int .i64 (outN oA oB i)) [] := Rowed.nil 3 1 _
  go_loopw [7, 26] (fun v c wr => ∃ (k : Nat) (tl : List (Nat × TypeId × Array Value)), k ≤ 2 ∧ c = .int .i64 k ∧ Hid (Rowed 3 1 v (40 * k) (fun i => .int .i64 (outN oA oB i)) tl) ∧ Has w wr ((g5, 77, row 9 a) :: (g2, 29, memA (fun _ => 0) false) :: (g1, 29, memA (mN f mB mC k) s) :: tl)) (fun _ c _ => 2 - (intOf c).toNat)
  case atStart => exact ⟨0, [], by omega, rfl, RO0, by simpa [mN] using H⟩
  clear H RO0
  case round =>
    obtain ⟨k, tl, hk2, rfl, RO, H⟩ := hrel
    replace RO := RO.out
    obtain rfl | rfl | rfl : k = 0 ∨ k = 1 ∨ k = 2 := by omega
    · have H0 : Has w _ ((g5, 77, row 9 a) :: (g2, 29, memA (fun _ => 0) false) :: (g1, 29, memA f s) :: tl) := H
      clear H
      have H := H0
      clear H0
      go_wp2_with (first | ((refine wpList_on (o := ⟨_, .load 29 _, _, _, _, _⟩) rfl (fun K hK => ?_)); (try simp only [Act.put, List.setIfInBounds_toArray, List.set_cons_zero, List.set_cons_succ]); refine wp_load_all H 29 _ rfl rfl (by repeat (first | exact List.mem_cons_self | apply List.mem_cons_of_mem | apply List.mem_append_right)) (by rw [memA_size]; kernel_rfl) ?_; refine hK _ _ ?_; clear hK K) | (go_at_call 50; (with_reducible refine (cE0.out _).mono ?_); rintro e w1 ⟨gn, rfl, hb⟩; replace H := H.join hb; clear hb; (try simp only [List.cons_append, List.nil_append] at H)) | (go_at_call 51; (with_reducible refine (cP0.out _ _ (H.lies List.mem_cons_self (Nat.le_refl _))).mono ?_); rintro e w1 ⟨vo, tlo, rfl, RP, hb⟩; obtain ⟨gq, capq, csq, rfl, rfl, hcapq, hszq, hcsq⟩ := RP.some_ (by omega); clear RP; replace H := H.join hb; clear hb; (try simp only [List.cons_append, List.nil_append] at H)) | ((refine wpList_on (o := ⟨_, .store 29 _ (.tmp 33), _, _, _, _⟩) rfl (fun K hK => ?_)); (try simp only [Act.put, List.setIfInBounds_toArray, List.set_cons_zero, List.set_cons_succ]); refine wp_store_all (l1 := [_, _, _]) H 29 _ _ rfl rfl rfl (by rw [memA_size]; kernel_rfl) (by rw [memA_size, memA_size]) (memA_one _ _) ?_; clear H; intro u H; refine hK _ _ ?_; clear hK K; (try simp only [List.cons_append, List.nil_append] at H)) | ((refine wpList_on (o := ⟨_, .store 29 _ (.tmp 41), _, _, _, _⟩) rfl (fun K hK => ?_)); (try simp only [Act.put, List.setIfInBounds_toArray, List.set_cons_zero, List.set_cons_succ]); refine wp_store_all (l1 := [_, _, _, _]) H 29 _ _ rfl rfl rfl (by rw [memA_size]; kernel_rfl) (by rw [memA_size, memA_size]) (memA_one _ _) ?_; clear H; intro u H; refine hK _ _ ?_; clear hK K; (try simp only [List.cons_append, List.nil_append] at H)) | ((refine wpList_on (o := ⟨_, .load 77 _, _, _, _, _⟩) rfl (fun K hK => ?_)); (try simp only [Act.put, List.setIfInBounds_toArray, List.set_cons_zero, List.set_cons_succ]); refine wp_load_all H 77 _ rfl rfl (by repeat (first | exact List.mem_cons_self | apply List.mem_cons_of_mem | apply List.mem_append_right)) (by kernel_rfl) ?_; refine hK _ _ ?_; clear hK K) | ((refine wpList_on (o := ⟨some 45, .call _, _, _, _, _⟩) rfl (fun K hK => ?_)); (try simp only [Act.put, List.setIfInBounds_toArray, List.set_cons_zero, List.set_cons_succ]); refine wp_append_has (bs := [_, _, _, _, _]) (e := 3) (s := 1) (B := 8) (m := 40) (nw := fun i => .int .i64 (oA i)) _ _ 35 rfl H RO rfl rfl (by kernel_rfl) (From.block (e := 3) (B := 8) H (by kernel_rfl) (by repeat (first | exact List.mem_cons_self | apply List.mem_cons_of_mem | apply List.mem_append_right)) (fun i hi => hcsq i hi) (fun i hi => rfl)) (by unfold maxLen; omega) (by omega) ?_; clear H RO; intro v' u tl' RO H; refine hK _ _ ?_; clear hK K; (try simp only [List.cons_append, List.nil_append] at H)))
      go_roundw
      case rel => exact ⟨1, _, by omega, by go_num, (by first | exact Rowed.out1 RO | exact Rowed.out2 RO), (by simpa [mN] using H.tail.tail)⟩
      case measure => simp [intOf]
    · have H0 : Has w _ ((g5, 77, row 9 a) :: (g2, 29, memA (fun _ => 0) false) :: (g1, 29, memA mB s) :: tl) := H
      clear H
      have H := H0
      clear H0
      go_wp2_with (first | ((refine wpList_on (o := ⟨_, .load 29 _, _, _, _, _⟩) rfl (fun K hK => ?_)); (try simp only [Act.put, List.setIfInBounds_toArray, List.set_cons_zero, List.set_cons_succ]); refine wp_load_all H 29 _ rfl rfl (by repeat (first | exact List.mem_cons_self | apply List.mem_cons_of_mem | apply List.mem_append_right)) (by rw [memA_size]; kernel_rfl) ?_; refine hK _ _ ?_; clear hK K) | (go_at_call 50; (with_reducible refine (cE1.out _).mono ?_); rintro e w1 ⟨gn, rfl, hb⟩; replace H := H.join hb; clear hb; (try simp only [List.cons_append, List.nil_append] at H)) | (go_at_call 51; (with_reducible refine (cP1.out _ _ (H.lies List.mem_cons_self (Nat.le_refl _))).mono ?_); rintro e w1 ⟨vo, tlo, rfl, RP, hb⟩; obtain ⟨gq, capq, csq, rfl, rfl, hcapq, hszq, hcsq⟩ := RP.some_ (by omega); clear RP; replace H := H.join hb; clear hb; (try simp only [List.cons_append, List.nil_append] at H)) | ((refine wpList_on (o := ⟨_, .store 29 _ (.tmp 33), _, _, _, _⟩) rfl (fun K hK => ?_)); (try simp only [Act.put, List.setIfInBounds_toArray, List.set_cons_zero, List.set_cons_succ]); refine wp_store_all (l1 := [_, _, _]) H 29 _ _ rfl rfl rfl (by rw [memA_size]; kernel_rfl) (by rw [memA_size, memA_size]) (memA_one _ _) ?_; clear H; intro u H; refine hK _ _ ?_; clear hK K; (try simp only [List.cons_append, List.nil_append] at H)) | ((refine wpList_on (o := ⟨_, .store 29 _ (.tmp 41), _, _, _, _⟩) rfl (fun K hK => ?_)); (try simp only [Act.put, List.setIfInBounds_toArray, List.set_cons_zero, List.set_cons_succ]); refine wp_store_all (l1 := [_, _, _, _]) H 29 _ _ rfl rfl rfl (by rw [memA_size]; kernel_rfl) (by rw [memA_size, memA_size]) (memA_one _ _) ?_; clear H; intro u H; refine hK _ _ ?_; clear hK K; (try simp only [List.cons_append, List.nil_append] at H)) | ((refine wpList_on (o := ⟨_, .load 77 _, _, _, _, _⟩) rfl (fun K hK => ?_)); (try simp only [Act.put, List.setIfInBounds_toArray, List.set_cons_zero, List.set_cons_succ]); refine wp_load_all H 77 _ rfl rfl (by repeat (first | exact List.mem_cons_self | apply List.mem_cons_of_mem | apply List.mem_append_right)) (by kernel_rfl) ?_; refine hK _ _ ?_; clear hK K) | ((refine wpList_on (o := ⟨some 45, .call _, _, _, _, _⟩) rfl (fun K hK => ?_)); (try simp only [Act.put, List.setIfInBounds_toArray, List.set_cons_zero, List.set_cons_succ]); refine wp_append_has (bs := [_, _, _, _, _]) (e := 3) (s := 1) (B := 8) (m := 40) (nw := fun i => .int .i64 (oB i)) _ _ 35 rfl H RO rfl rfl (by kernel_rfl) (From.block (e := 3) (B := 8) H (by kernel_rfl) (by repeat (first | exact List.mem_cons_self | apply List.mem_cons_of_mem | apply List.mem_append_right)) (fun i hi => hcsq i hi) (fun i hi => rfl)) (by unfold maxLen; omega) (by omega) ?_; clear H RO; intro v' u tl' RO H; refine hK _ _ ?_; clear hK K; (try simp only [List.cons_append, List.nil_append] at H)))
      go_roundw
      case rel => exact ⟨2, _, by omega, by go_num, (by first | exact Rowed.out1 RO | exact Rowed.out2 RO), (by simpa [mN] using H.tail.tail)⟩
      case measure => simp [intOf]
    · have H0 : Has w _ ((g5, 77, row 9 a) :: (g2, 29, memA (fun _ => 0) false) :: (g1, 29, memA mC s) :: tl) := H
      clear H
      have H := H0
      clear H0
      obtain ⟨gz, capz, csz, rfl, rfl, hcz, hsz, hcsz⟩ := RO.some_ (by omega)
      have R80 : Rowed 3 1 (.slice (some ⟨gz, 0, none⟩) 80 capz) 80 (fun i => .int .i64 (outN oA oB i)) [(gz, 3, csz)] := RO
      simp only [show 40 * 2 = 80 from rfl]
      clear RO
      go_wp2_with (first | ((refine wpList_on (o := ⟨_, .load 29 _, _, _, _, _⟩) rfl (fun K hK => ?_)); (try simp only [Act.put, List.setIfInBounds_toArray, List.set_cons_zero, List.set_cons_succ]); refine wp_load_all H 29 _ rfl rfl (by repeat (first | exact List.mem_cons_self | apply List.mem_cons_of_mem | apply List.mem_append_right)) (by rw [memA_size]; kernel_rfl) ?_; refine hK _ _ ?_; clear hK K) | ((refine wpList_on (o := ⟨_, .store 29 _ _, _, _, _, _⟩) rfl (fun K hK => ?_)); (try simp only [Act.put, List.setIfInBounds_toArray, List.set_cons_zero, List.set_cons_succ]); refine wp_store_all (l1 := [_]) H 29 _ _ rfl rfl rfl (by rw [memA_size]; kernel_rfl) (by rw [memA_size, memA_size]) (memA_one _ _) ?_; clear H; intro u H; refine hK _ _ ?_; clear hK K; try simp only [Value.cells, List.cons_append, List.nil_append] at H))
      refine bodyPost_ret (results_has3 rfl _ H rfl (by repeat (first | exact List.mem_cons_self | apply List.mem_cons_of_mem | apply List.mem_append_right)) (by rw [memA_size]; kernel_rfl)) rfl ⟨.slice (some ⟨gz, 0, none⟩) 80 capz, [(gz, 3, csz)], rfl, R80, H.sub (by repeat (first | exact List.Sublist.refl _ | apply List.Sublist.cons))⟩
theorem Erase_any (f : Nat → Int) (s : Bool) (w : World) (hG : GoodM f) : Calls Tryd.prog 20 #[.agg (memA f s)] w (EraPost f s w) := by
  have hr : ∀ i, i < 8 → -32768 < f i ∧ f i < 32768 := fun i hi => by have := hG.refl i hi; omega
  have kd : FilOk (dirOut f) := ⟨dirOut_head _, dirOut_bd _ hr⟩
  have ka : FilOk (eA f) := expG_ok kd
  exact erase_in f (eA f) (eB f) (eC f) (eN f 0) (eN (eB f) 1) (eX f 0) (eX (eB f) 1) _ _ (dirOut f) s w (fun w => Good_any f s w hG) (fun w => direct_any f w hr)
    (fun w => expand_any (dirOut f) 32440 w (by omega) (by omega) (fun i hi => by have := kd.bd i hi; omega))
    (fun w => Erased_any f s 0 w hG (by omega)) (fun w => Erased_any (eB f) s 1 w (eB_good hG) (by omega))
    (fun v w L => play_any (eN f 0) (eA f) (eX f 0) s (eN_good hG 0) ka (fun i _ => mixF_bd _ _ _ _ _) L)
    (fun v w L => play_any (eN (eB f) 1) (eA f) (eX (eB f) 1) s (eN_good (eB_good hG) 1) ka (fun i _ => mixF_bd _ _ _ _ _) L)
end Go.Proofs.YtcoicmbjoaonoaaDoor
/-
  A memory is equal to itself; within walked. No statement is proved here.
-/
namespace Go.Proofs.YtcoicmbjoaonoaaDoor
set_option linter.unusedVariables false
set_option linter.unusedSimpArgs false
open Go.RowKit
set_option maxRecDepth 100000
theorem part_agg {P : Program} {ty : TypeId} {n : Nat} (h : aggOf P ty n = true) (xs : Array Value) (o : Nat) (w : World) : (part ty xs o).run P w = .ok (.agg (xs.extract o (o + n))) w := by
  obtain ⟨d, h1, h2, h3⟩ := aggOf_parts h
  cases hi : P.info? ty with
  | none => rw [hi] at h3; cases h3
  | some i =>
    rw [hi] at h3
    have hz : i.size = n := Option.some.inj h3
    cases d <;> first | (simp at h2; done) | (simp [part, isAgg, Sem.run_bind, run_underlying h1, run_sizeOf w hi, hz, Program.cellsOf, hi])
theorem part_cell {P : Program} {ty : TypeId} (h : scalarOf P ty = true) {xs : Array Value} {o : Nat} {v : Value} (hx : xs[o]? = some v) (w : World) : (part ty xs o).run P w = .ok v w := by
  have h1 := (scalarOf_parts h w).1
  unfold part
  simp only [Sem.run_bind, h1, Result.andThen_ok, hx]
  rfl
theorem eqFields_true {P : Program} {d : Nat} {xs : Array Value} : ∀ (fs : List Field) (w : World), (∀ f ∈ fs, ∃ v, (∀ w, (part f.type xs f.offset).run P w = .ok v w) ∧ ∀ w, (Op.equalIn d f.type v v).run P w = .ok true w) → (Op.eqFields d xs xs fs).run P w = .ok true w
  | [], w, _ => by simp [Op.eqFields]
  | f :: fs, w, h => by
    obtain ⟨v, h1, h2⟩ := h f List.mem_cons_self
    have ih := eqFields_true (d := d) (xs := xs) fs w fun g hg => h g (List.mem_cons_of_mem _ hg)
    rw [Op.eqFields]
    split
    · simp [Sem.run_bind, h1, h2, ih]
    · exact ih
theorem mem_eql (f : Nat → Int) (s : Bool) (w : World) : (binOp .eql 29 (.agg (memA f s)) (.agg (memA f s))).run Tryd.prog w = .ok (.bool true) w := by
  rw [run_eql_struct, run_equalIn_struct w 9999 29 _ _ (by kernel_rfl) (by kernel_rfl)]
  have hall : ((Tryd.prog.fieldsOf 29).toList.all fun g => [(26, 0), (26, 8), (27, 16), (3, 96), (3, 97), (3, 98), (3, 99), (3, 100), (4, 101)].contains (g.type, g.offset)) = true := by kernel_rfl
  rw [eqFields_true _ w fun g hg => ?_]
  · rfl
  have hm := List.all_eq_true.1 hall g hg
  have hm' : (g.type, g.offset) ∈ [(26, 0), (26, 8), (27, 16), (3, 96), (3, 97), (3, 98), (3, 99), (3, 100), (4, 101)] := by simpa using hm
  clear hm hall hg
  have e8 : ∀ (w : World) (h : Nat → Int), (Op.equalIn 9999 26 (.agg (row 8 h)) (.agg (row 8 h))).run Tryd.prog w = .ok true w := fun w h => eqIn_rows (P := Tryd.prog) (t := 26) Tryd.underlying26 Tryd.underlying3 (info_some (by kernel_rfl)) (by kernel_rfl) w h 9997
  have e80 : ∀ (w : World) (h : Nat → Int), (Op.equalIn 9999 27 (.agg (row 80 h)) (.agg (row 80 h))).run Tryd.prog w = .ok true w := fun w h => eqIn_rows (P := Tryd.prog) (t := 27) Tryd.underlying27 Tryd.underlying3 (info_some (by kernel_rfl)) (by kernel_rfl) w h 9997
  have eI : ∀ (w : World) (k : Int), (Op.equalIn 9999 3 (.int .i64 k) (.int .i64 k)).run Tryd.prog w = .ok true w := fun w k => by rw [run_equalIn_int w 9998 3 .i64 .i64 k k Tryd.underlying3]; simp
  have eB : ∀ (w : World) (k : Bool), (Op.equalIn 9999 4 (.bool k) (.bool k)).run Tryd.prog w = .ok true w := fun w k => by rw [run_equalIn_bool w 9998 4 k k Tryd.underlying4]; simp
  generalize g.type = ty at *
  generalize g.offset = o at *
  clear g
  simp only [List.mem_cons, Prod.mk.injEq, List.not_mem_nil, or_false] at hm'
  rcases hm' with ⟨rfl, rfl⟩ | ⟨rfl, rfl⟩ | ⟨rfl, rfl⟩ | ⟨rfl, rfl⟩ | ⟨rfl, rfl⟩ | ⟨rfl, rfl⟩ | ⟨rfl, rfl⟩ | ⟨rfl, rfl⟩ | ⟨rfl, rfl⟩
  · exact ⟨_, fun w => (part_agg (n := 8) (by kernel_rfl) _ 0 w).trans (by rw [memA_refl]), fun w => e8 w _⟩
  · exact ⟨_, fun w => (part_agg (n := 8) (by kernel_rfl) _ 8 w).trans (by rw [memA_past]), fun w => e8 w _⟩
  · exact ⟨_, fun w => (part_agg (n := 80) (by kernel_rfl) _ 16 w).trans (by rw [memA_exc]), fun w => e80 w _⟩
  · exact ⟨_, part_cell (by kernel_rfl) (memA_get f s (by omega)), fun w => eI w _⟩
  · exact ⟨_, part_cell (by kernel_rfl) (memA_get f s (by omega)), fun w => eI w _⟩
  · exact ⟨_, part_cell (by kernel_rfl) (memA_get f s (by omega)), fun w => eI w _⟩
  · exact ⟨_, part_cell (by kernel_rfl) (memA_get f s (by omega)), fun w => eI w _⟩
  · exact ⟨_, part_cell (by kernel_rfl) (memA_get f s (by omega)), fun w => eI w _⟩
  · exact ⟨_, part_cell (by kernel_rfl) (memA_bool f s), fun w => eB w _⟩
set_option maxHeartbeats 1600000 in
theorem within_any (f : Nat → Int) {v : Value} {w : World} (hf : ∀ i, i < 80 → In16 (f i)) (L : Lies w v 80 f) :
    Calls Tryd.prog 32 #[v, .int .i64 80] w fun e w' => e = .returned (.bool true) ∧ w = w' := by
  obtain ⟨P, cap, b, o, rfl, R⟩ := L
  obtain rfl := R.ptr (by omega)
  have HF := Lib.hid hf
  clear hf
  go_enter Tryd.func32, Tryd.ntmps32
  go_wp2
  go_loop [9] (fun c => ∃ k : Nat, k ≤ 80 ∧ c = .int .i64 k) (fun c => 80 - (intOf c).toNat)
  case atStart => exact ⟨0, by omega, rfl⟩
  case round =>
    obtain ⟨k, hk, rfl⟩ := hrel
    by_cases hlt : k < 80
    · obtain ⟨x1, x2⟩ := HF.out k hlt
      have q1 : (k : Int) < 80 := by omega
      have d1 := lt_no x1
      have d2 := lt_no x2
      go_wp2_with (first | ((refine wpList_on (o := ⟨_, .load 3 _, _, _, _, _⟩) rfl (fun K hK => ?_)); refine wp_load_num R 3 _ rfl rfl (by kernel_rfl) hlt ?_; refine hK _ _ ?_; clear hK K))
      go_round
      case rel => exact ⟨k + 1, by omega, by go_num⟩
      case measure => simp [intOf]; omega
    · obtain rfl : k = 80 := by omega
      go_wp2
      go_ret
      exact ⟨rfl, rfl⟩
end Go.Proofs.YtcoicmbjoaonoaaDoor
