/-
  The walk of PulsesMemory. No statement is proved here.
-/
import Derived.Test.YtcoicmbjoaonoaaAllFew
import Derived.Test.YtcoicmbjoaonoaaTarget
import Derived.Test.YtcoicmbjoaonoaaRings
import Derived.Test.YtcoicmbjoaonoaaMixKeep
import Derived.Test.YtcoicmbjoaonoaaMemory
namespace Go.Proofs.Ytcoicmbjoaonoaa
open Go.RowKit
theorem roomIn {n : Nat} {f : Nat → Int} (hf : ∀ i, In16 (f i)) (i : Nat) : In16 (roomF n f i) := by
  unfold roomF
  split
  · exact hf i
  · split <;> (unfold In16; omega)
theorem in16_40 {f : Nat → Int} (hf : ∀ i, In16 (f i)) (i : Nat) (_ : i < 40) : -1099511627776 ≤ f i ∧ f i ≤ 1099511627776 := by
  have := hf i
  unfold In16 at this
  omega
theorem rowed_row {n : Nat} (g : Nat) (f : Nat → Int) (hn : n ≤ 100000) : Rowed 3 1 (.slice (some ⟨g, 0, none⟩) n n) n (fun i => .int .i64 (f i)) [(g, 3, row n f)] :=
  .inr ⟨g, n, _, rfl, rfl, Nat.le_refl _, (by unfold maxLen; omega), by rw [row_size, Nat.mul_one], fun i hi => row_get f (by omega)⟩
theorem Mix_0 (x : Nat → Int) {v : Value} {w : World} (LX : Lies w v 40 x) : Calls Try.prog 22 #[.agg (row 80 fun _ => 0), .int .i64 20, .int .i64 0, v] w (MixPost (fun _ => 0) 20 0 x w) := Mix_any (fun _ => 0) x 20 0 (by omega) (by omega) (by omega) (by omega) LX
theorem Keep_0 (x : Nat → Int) {v : Value} {w : World} (LX : Lies w v 40 x) : Calls Try.prog 23 #[.agg (row 80 fun _ => 0), v] w fun e w' => e = .returned (.tuple #[.agg (row 80 (keepF (fun _ => 0) x)), .int .i64 0]) ∧ Below w.heap.size w w' := Keep_any (fun _ => 0) x LX
theorem Past_0 (w : World) : Calls Try.prog 24 #[.agg (row 80 fun _ => 0), .int .i64 20] w (PastPost (fun _ => 0) 20 w) := Past_any (fun _ => 0) 20 w (by omega) (by omega)
theorem Energy_35 (r : Nat → Int) {v : Value} {w : World} (hr : ∀ i, i < 40 → In16 (r i)) (L : Lies w v 40 r) : Calls Try.prog 20 #[v, .int .i64 3, .int .i64 5] w fun e w' => e = .returned (.tuple #[.int .i64 (energyS r 3 5), .int .i64 0]) ∧ Below w.heap.size w w' := Energy_l r 3 5 hr (by omega) (by omega) L
theorem Score_0 (d r : Nat → Int) {v v' : Value} {w : World} (hd : ∀ i, i < 40 → -1099511627776 ≤ d i ∧ d i ≤ 1099511627776) (hr : ∀ i, i < 40 → In16 (r i)) (L : Lies w v 40 d) (L' : Lies w v' 40 r) :
    Calls Try.prog 21 #[v, v', .agg #[.int .i64 0, .int .i64 0, .int .i64 0, .int .i64 0]] w (Score3Post d r (fun _ => 0) w) := Score_any d r (fun _ => 0) hd hr (fun i _ => show (0 : Int) ≤ 0 ∧ (0 : Int) ≤ 9 by omega) L L'
set_option maxHeartbeats 12800000 in
set_option maxRecDepth 100000 in
theorem pulsesMemory_in (d r : Nat → Int) (P P' : Option Addr) (n cap n' cap' : Nat) (w : World) (hd : ∀ i, In16 (d i)) (hr : ∀ i, In16 (r i))
    (c1 : ∀ w' : World, Below w.heap.size w w' → Calls Try.prog 7 #[.slice P n cap, .int .i64 40] w' fun e w'' => ∃ g, e = .returned (.slice (some ⟨g, 0, none⟩) 40 40) ∧ Has w' w'' [(g, 3, row 40 d)])
    (c2 : ∀ w' : World, Below w.heap.size w w' → Calls Try.prog 7 #[.slice P' n' cap', .int .i64 40] w' fun e w'' => ∃ g, e = .returned (.slice (some ⟨g, 0, none⟩) 40 40) ∧ Has w' w'' [(g, 3, row 40 r)]) :
    Calls Try.prog 4 #[.slice P n cap, .slice P' n' cap'] w fun e w' => e = .returned (.bool true) ∧ Below w.heap.size w w' := by
  have H := Has.start w
  have C1 := Lib.hid c1
  have C2 := Lib.hid c2
  have D16 := Lib.hid (fun i => roomIn (n := 40) hd i)
  have E16 := Lib.hid (fun i => roomIn (n := 40) hr i)
  have HD := Lib.hid (in16_40 (fun i => roomIn (n := 40) hd i))
  clear c1 c2 hd hr
  have hz : ∀ w, (zeroValue 54).run Try.prog w = .ok (.agg (row 80 fun _ => 0)) w := fun w => by kernel_rfl
  go_enter Try.func4, Try.ntmps4
  go_wp2_with fail
  refine (C1.out _ H.below).mono ?_
  rintro e u ⟨gd, rfl, hb⟩
  replace H := H.joinR hb; clear hb; (try simp only [List.cons_append, List.nil_append, List.append_assoc] at H)
  go_wp2_with fail
  refine (C2.out _ H.below).mono ?_
  rintro e u ⟨gr, rfl, hb⟩
  replace H := H.joinR hb; clear hb; (try simp only [List.cons_append, List.nil_append, List.append_assoc] at H)
  clear C1 C2
  go_wp2_with fail
  refine (roomy_any gd 40 40 d _ (by omega) (Reads.ofRow H (by repeat (first | exact List.mem_cons_self | apply List.mem_cons_of_mem | apply List.mem_append_right)) (Nat.le_refl _))).mono ?_
  rintro e u ⟨gm, rfl, hb⟩
  replace H := H.joinR hb; clear hb; (try simp only [List.cons_append, List.nil_append, List.append_assoc] at H)
  go_wp2_with fail
  refine (roomy_any gr 40 40 r _ (by omega) (Reads.ofRow H (by repeat (first | exact List.mem_cons_self | apply List.mem_cons_of_mem | apply List.mem_append_right)) (Nat.le_refl _))).mono ?_
  rintro e u ⟨gn, rfl, hb⟩
  replace H := H.joinR hb; clear hb; (try simp only [List.cons_append, List.nil_append, List.append_assoc] at H)
  go_wp2_with fail
  refine (Target_any (roomF 40 d) (roomF 40 r) (fun i _ => D16.out i) (fun i _ => E16.out i) (H.lies (by repeat (first | exact List.mem_cons_self | apply List.mem_cons_of_mem | apply List.mem_append_right)) (by omega)) (H.lies (by repeat (first | exact List.mem_cons_self | apply List.mem_cons_of_mem | apply List.mem_append_right)) (by omega))).mono ?_
  rintro e u ⟨gx, rfl, hb⟩
  replace H := H.joinR hb; clear hb; (try simp only [List.cons_append, List.nil_append, List.append_assoc] at H)
  go_wp2_with fail
  refine (Few_any (roomF 40 d) (roomF 40 r) HD.out (fun i _ => E16.out i) (H.lies (by repeat (first | exact List.mem_cons_self | apply List.mem_cons_of_mem | apply List.mem_append_right)) (by omega)) (H.lies (by repeat (first | exact List.mem_cons_self | apply List.mem_cons_of_mem | apply List.mem_append_right)) (by omega))).mono ?_
  rintro e u ⟨a, s, va, s0, s1, _, rfl, hb⟩
  replace H := H.callee hb
  clear hb va s0 s1
  go_wp2_with fail
  refine (Energy_35 (roomF 40 r) (fun i _ => E16.out i) (H.lies (by repeat (first | exact List.mem_cons_self | apply List.mem_cons_of_mem | apply List.mem_append_right)) (by omega))).mono ?_
  rintro e u ⟨rfl, hb⟩
  replace H := H.callee hb
  clear hb
  go_wp2_with fail
  refine (Score_0 (roomF 40 d) (roomF 40 r) HD.out (fun i _ => E16.out i) (H.lies (by repeat (first | exact List.mem_cons_self | apply List.mem_cons_of_mem | apply List.mem_append_right)) (by omega)) (H.lies (by repeat (first | exact List.mem_cons_self | apply List.mem_cons_of_mem | apply List.mem_append_right)) (by omega))).mono ?_
  rintro e u ⟨rfl, hb⟩
  replace H := H.callee hb
  clear hb
  go_wp2_with fail
  refine (scribble_own (bs := [_, _, _, _]) (by omega) (rowed_row gx _ (by omega)) H).mono ?_
  clear H
  rintro e u ⟨rfl, H⟩
  go_wp2_with fail
  refine (Mix_0 (roomF 40 d) (H.lies (by repeat (first | exact List.mem_cons_self | apply List.mem_cons_of_mem | apply List.mem_append_right)) (by omega))).mono ?_
  rintro e u ⟨gy, rfl, hb⟩
  replace H := H.joinR hb; clear hb; (try simp only [List.cons_append, List.nil_append, List.append_assoc] at H)
  go_wp2_with fail
  refine (Keep_0 (roomF 40 d) (H.lies (by repeat (first | exact List.mem_cons_self | apply List.mem_cons_of_mem | apply List.mem_append_right)) (by omega))).mono ?_
  rintro e u ⟨rfl, hb⟩
  replace H := H.callee hb
  clear hb
  go_wp2_with fail
  refine (scribble_own (bs := [_, _, _, _]) (by omega) (rowed_row gy _ (by omega)) H).mono ?_
  clear H
  rintro e u ⟨rfl, H⟩
  go_wp2_with fail
  refine (Past_0 _).mono ?_
  rintro e u ⟨gv, rfl, hb⟩
  replace H := H.joinR hb; clear hb; (try simp only [List.cons_append, List.nil_append, List.append_assoc] at H)
  go_wp2_with fail
  refine (Past_0 _).mono ?_
  rintro e u ⟨gw, rfl, hb⟩
  replace H := H.joinR hb; clear hb; (try simp only [List.cons_append, List.nil_append, List.append_assoc] at H)
  replace H : Has w u ([(gd, 3, row 40 d), (gr, 3, row 40 r), (gm, 3, row 42 (roomF 40 d)), (gn, 3, row 42 (roomF 40 r)), (gw, 3, row 40 (pastF (fun _ => 0) 20))] ++ [(gv, 3, row 40 (pastF (fun _ => 0) 20))]) := H.perm (((((List.Perm.swap _ _ _).cons _).cons _).cons _).cons _)
  go_wp2_with fail
  refine (scribble_own (by omega) (rowed_row gv _ (by omega)) H).mono ?_
  clear H
  rintro e u ⟨rfl, H⟩
  go_wp2_with (first | (go_at_call 25; (with_reducible refine (rings_any _).mono ?_); rintro e w1 ⟨rfl, hb⟩; replace H := H.callee hb; clear hb) | (go_at_call 17; (with_reducible refine (stayed_any gm gd 40 d _ (by omega) (fun i hi => ((H.at_ (by repeat (first | exact List.mem_cons_self | apply List.mem_cons_of_mem | apply List.mem_append_right))).cell i).trans (row_get _ hi)) (Reads.ofRow H (by repeat (first | exact List.mem_cons_self | apply List.mem_cons_of_mem | apply List.mem_append_right)) (Nat.le_refl _))).mono ?_); rintro e u ⟨rfl, hb⟩; replace H := H.callee hb; clear hb) | (go_at_call 17; (with_reducible refine (stayed_any gn gr 40 r _ (by omega) (fun i hi => ((H.at_ (by repeat (first | exact List.mem_cons_self | apply List.mem_cons_of_mem | apply List.mem_append_right))).cell i).trans (row_get _ hi)) (Reads.ofRow H (by repeat (first | exact List.mem_cons_self | apply List.mem_cons_of_mem | apply List.mem_append_right)) (Nat.le_refl _))).mono ?_); rintro e u ⟨rfl, hb⟩; replace H := H.callee hb; clear hb) | ((refine wpList_on (o := ⟨_, .load 3 _, _, _, _, _⟩) rfl (fun K hK => ?_)); refine wp_load_one (v := .int .i64 0) H 3 _ rfl rfl (by repeat (first | exact List.mem_cons_self | apply List.mem_cons_of_mem | apply List.mem_append_right)) (by kernel_rfl) (by exact row_get (pastF (fun _ => 0) 20) (by omega)) ?_; refine hK _ _ ?_; clear hK K))
  go_ret
  exact ⟨rfl, H.below⟩
theorem pulsesMemory_walk (P : Option Addr) (n cap : Nat) (ad : Addr) (f : Nat → Int) (hn : n ≤ 9223372036854775807) {w : World} (hR : ReadsA w P n ad f) (P' : Option Addr) (n' cap' : Nat) (ad' : Addr) (f' : Nat → Int) (hn' : n' ≤ 9223372036854775807) (hR' : ReadsA w P' n' ad' f') :
    Calls Try.prog 4 #[.slice P n cap, .slice P' n' cap'] w fun e w' => e = .returned (.bool true) ∧ Below w.heap.size w w' :=
  pulsesMemory_in (listF n f) (listF n' f') P P' n cap n' cap' w (fun i => listF_bd n f i) (fun i => listF_bd n' f' i)
    (fun w' hb => lists_any P n cap ad f 40 w' hn (by omega) (by omega) (hR.below hb))
    (fun w' hb => lists_any P' n' cap' ad' f' 40 w' hn' (by omega) (by omega) (hR'.below hb))
end Go.Proofs.Ytcoicmbjoaonoaa
