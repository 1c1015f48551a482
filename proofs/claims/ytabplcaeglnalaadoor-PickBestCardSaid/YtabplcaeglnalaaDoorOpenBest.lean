/-
  The walk of OpenBest. No statement is proved here.
-/
import Derived.Test.YtabplcaeglnalaaDoorOpenB
namespace Go.Proofs.YtabplcaeglnalaaDoor
open Go.RowKit
theorem Open_r {f : Nat → Int} {v : Value} {e : TypeId} {w u : World} {tl bs : List (Nat × TypeId × Array Value)} (hf : ∀ i, i < 159 → In16 (f i)) (RO : Rowed e 1 v 159 (fun i => .int .i64 (f i)) tl) (H : Has w u bs) (hs : tl.Sublist bs) : Calls Tryd.prog 6 #[v] u (OpenPost f u) := by
  obtain ⟨g, cap, cs, rfl, rfl, h1, h2, h3⟩ := RO.some_ (by omega)
  have hm : (g, e, cs) ∈ bs := hs.subset (by simp)
  exact Open_any f g 0 cap u hf h1 (Reads.ofCells H hm fun i hi => h3 i (by omega))
set_option maxHeartbeats 1600000 in
theorem keepDot_l {a b : Nat → Int} {n : Nat} {v v' : Value} {w : World} (hn : n ≤ 80) (ha : ∀ i, i < n → In16 (a i)) (hb : ∀ i, i < n → In16 (b i)) (L : Lies w v n a) (L' : Lies w v' n b) :
    Calls Tryd.prog 9 #[v, v'] w fun e w' => e = .returned (.int .i64 (dotF a b n)) ∧ Below w.heap.size w w' := by
  obtain ⟨P, cap, g, o, rfl, hR1⟩ := L
  obtain ⟨P', cap', g', o', rfl, hR2⟩ := L'
  have H := Has.start w
  have HS : Hid (∀ k, k ≤ n → -(k * 1073741824) ≤ dotF a b k ∧ dotF a b k ≤ k * 1073741824) := fun k hk => dot_bd (fun i hi => ha i (by omega)) (fun i hi => hb i (by omega))
  have HT : Hid (∀ i, i < n → -1073741824 ≤ a i * b i ∧ a i * b i ≤ 1073741824) := fun i hi => by
    have h1 := ha i hi
    have h2 := hb i hi
    unfold In16 at h1 h2
    exact mul_bd _ _ 32768 32768 (by omega) (by omega) (by omega) (by omega)
  clear ha hb
  go_enter Tryd.func9, Tryd.ntmps9
  go_wp2
  go_loopw [5, 6] (fun s c wr => ∃ k : Nat, k ≤ n ∧ c = .int .i64 k ∧ s = .int .i64 (dotF a b k) ∧ Has w wr []) (fun _ c _ => n - (intOf c).toNat)
  case atStart => exact ⟨0, by omega, rfl, rfl, H⟩
  clear H
  case round =>
    obtain ⟨k, hk, rfl, rfl, H⟩ := hrel
    by_cases hlt : k < n
    · obtain rfl := hR1.ptr (by omega)
      obtain rfl := hR2.ptr (by omega)
      obtain ⟨b1, b2⟩ := HS.out k hk
      obtain ⟨t1, t2⟩ := HT.out k hlt
      have HN : Hid (dotF a b (k + 1) = dotF a b k + a k * b k) := rfl
      have s1 : IntKind.i64.wrap (a k * b k) = a k * b k := IntWalk.i64_in _ (by omega)
      have q1 : (k : Int) < (n : Int) := by omega
      have q2 : (0 : Int) ≤ (k : Int) := by omega
      generalize dotF a b k = S at *
      have s2 : IntKind.i64.wrap (S + a k * b k) = S + a k * b k := IntWalk.i64_in _ (by generalize a k * b k = q at *; omega)
      go_wp2_with fail
      refine wp_region_text [] (by kernel_rfl) (by kernel_rfl) (by kernel_rfl) ?_; replace H := H.drew; generalize World.drew _ = u at *
      have R1 := Reads.has hR1 H
      have R2 := Reads.has hR2 H
      repeat (first | (refine ones_load_num R1 (o := ⟨_, .load 3 _, _, _, _, _⟩) 3 _ rfl rfl rfl rfl (by kernel_rfl) hlt ?_; simp only [Act.put, List.setIfInBounds_toArray, List.set_cons_zero, List.set_cons_succ]) | (refine ones_load_num R2 (o := ⟨_, .load 3 _, _, _, _, _⟩) 3 _ rfl rfl rfl rfl (by kernel_rfl) hlt ?_; simp only [Act.put, List.setIfInBounds_toArray, List.set_cons_zero, List.set_cons_succ]) | (refine ones_free (v := ?_) rfl rfl ?_ ?_; rotate_left; (intro w'; go_simp; try with_reducible rfl); simp only [Act.put, List.setIfInBounds_toArray, List.set_cons_zero, List.set_cons_succ]))
      refine ones_nil ?_
      clear R1 R2
      go_wp2
      go_roundw
      case rel => exact ⟨k + 1, by omega, by go_num, by rw [HN.out, ← s2], H⟩
      case measure => simp [intOf]; omega
    · obtain rfl : k = n := by omega
      go_wp2
      go_ret
      exact ⟨rfl, H.below⟩
set_option maxHeartbeats 6400000 in
set_option maxRecDepth 100000 in
theorem openBest_in (f : Nat → Int) (P : Option Addr) (n cap K : Nat) (x : Int) (w : World) (hT : Gains w) (hf : ∀ i, In16 (f i)) (hK : 20 ≤ K ∧ K ≤ 79)
    (c1 : ∀ w' : World, Below w.heap.size w w' → Calls Tryd.prog 5 #[.slice P n cap, .int .i64 159] w' fun e w'' => ∃ g, e = .returned (.slice (some ⟨g, 0, none⟩) 159 159) ∧ Has w' w'' [(g, 3, row 159 f)])
    (c2 : ∀ w : World, Calls Tryd.prog 8 #[.int .i64 x, .int .i64 60] w fun e w' => e = .returned (.int .i64 ((K : Int) - 20)) ∧ w = w') :
    Calls Tryd.prog 3 #[.slice P n cap, .int .i64 x] w fun e w' => e = .returned (.bool true) ∧ Below w.heap.size w w' := by
  have H := Has.start w
  have C1 := Lib.hid c1
  have C2 := Lib.hid c2
  have HF := Lib.hid hf
  have c3 := fun (u : World) (bs : List (Nat × TypeId × Array Value)) (g m m' y z : Nat) (H : Has w u bs) (hm : (g, 3, row 159 f) ∈ bs) (h : m ≤ 79) (h' : m' ≤ 79) => keepDot_l (w := u) (n := 80) (by omega) (a := fun i => f (m + i)) (b := fun i => f (m' + i)) (fun i _ => hf _) (fun i _ => hf _) (H.liesP (k := m) (n := 80) (cap := y) hm (by omega)) (H.liesP (k := m') (n := 80) (cap := z) hm (by omega))
  have C3 := Lib.hid c3
  have kK : 20 + ((K : Int) - 20) = (K : Int) := by omega
  clear c1 c2 c3 hf
  go_enter Tryd.func3, Tryd.ntmps3
  go_wp2_with (first | (go_at_call 5; (with_reducible refine (C1.out _ H.below).mono ?_); rintro e w1 ⟨gl, rfl, hb⟩; replace H := H.join hb; clear hb; try simp only [Value.cells, List.cons_append, List.nil_append] at H) | ((refine wpList_on (o := ⟨some 17, .call _, _, _, _, _⟩) rfl (fun K hK => ?_)); refine wp_append_nil (t := 22) (e := 3) (m := 159) (f := f) H _ _ rfl rfl rfl (by kernel_rfl) (Lies.from_ (e := 3) (by kernel_rfl) (H.lies (by repeat (first | exact List.mem_cons_self | apply List.mem_cons_of_mem | apply List.mem_append_right)) (Nat.le_refl _))) (by omega) ?_; clear H; intro vc u tlc ROc H; (try simp only [List.cons_append, List.nil_append] at H); refine hK _ _ ?_; clear hK K))
  refine (Open_r (fun i _ => HF.out i) ROc H (by repeat (first | exact List.Sublist.refl _ | apply List.Sublist.cons))).mono ?_
  rintro e w1 ⟨best, bc, be, rfl, hbest, hb⟩
  replace H := H.callee hb
  obtain ⟨l1, l2, l3, l4⟩ := best_lag hbest (by omega)
  have HBest := Lib.hid hbest
  clear hb hbest C1
  have d1 := lt_no (show (20 : Int) ≤ best by omega)
  have d2 := lt_no (show (best : Int) ≤ 79 by omega)
  obtain ⟨m, hm⟩ : ∃ m, m = 79 - best := ⟨_, rfl⟩
  obtain ⟨M, hM⟩ : ∃ M, M = 79 - K := ⟨_, rfl⟩
  have s1 : IntKind.i64.wrap (79 - (best : Int)) = (m : Int) := by rw [IntWalk.i64_in _ (by omega)]; omega
  have s2 : IntKind.i64.wrap (79 - (K : Int)) = (M : Int) := by rw [IntWalk.i64_in _ (by omega)]; omega
  have m1 : m ≤ 59 := by omega
  have m2 : M ≤ 59 := by omega
  have m3 : ¬ 159 = m := by omega
  have m4 : ¬ 159 = M := by omega
  have hm0 := Lib.hid hm
  have hM0 := Lib.hid hM
  clear hm hM l1 l2
  have k1 : ∀ (u : World) (bs : List (Nat × TypeId × Array Value)) (y z : Nat), Has w u bs → (gl, 3, row 159 f) ∈ bs → Calls Tryd.prog 9 #[.slice (some ⟨gl, 79, none⟩) 80 y, .slice (some ⟨gl, m, none⟩) 80 z] u fun e w' => e = .returned (.int .i64 (opC f best)) ∧ Below u.heap.size u w' := fun u bs y z H hx => by
    have := C3.out u bs gl 79 m y z H hx (by omega) (by omega)
    unfold opC wasF nowF
    rw [← hm0.out]; exact this
  have k2 : ∀ (u : World) (bs : List (Nat × TypeId × Array Value)) (y z : Nat), Has w u bs → (gl, 3, row 159 f) ∈ bs → Calls Tryd.prog 9 #[.slice (some ⟨gl, 79, none⟩) 80 y, .slice (some ⟨gl, M, none⟩) 80 z] u fun e w' => e = .returned (.int .i64 (opC f K)) ∧ Below u.heap.size u w' := fun u bs y z H hx => by
    have := C3.out u bs gl 79 M y z H hx (by omega) (by omega)
    unfold opC wasF nowF
    rw [← hM0.out]; exact this
  have k3 : ∀ (u : World) (bs : List (Nat × TypeId × Array Value)) (y z : Nat), Has w u bs → (gl, 3, row 159 f) ∈ bs → Calls Tryd.prog 9 #[.slice (some ⟨gl, m, none⟩) 80 y, .slice (some ⟨gl, m, none⟩) 80 z] u fun e w' => e = .returned (.int .i64 (opE f best)) ∧ Below u.heap.size u w' := fun u bs y z H hx => by
    have := C3.out u bs gl m m y z H hx (by omega) (by omega)
    unfold opE wasF
    rw [← hm0.out]; exact this
  have k4 : ∀ (u : World) (bs : List (Nat × TypeId × Array Value)) (y z : Nat), Has w u bs → (gl, 3, row 159 f) ∈ bs → Calls Tryd.prog 9 #[.slice (some ⟨gl, M, none⟩) 80 y, .slice (some ⟨gl, M, none⟩) 80 z] u fun e w' => e = .returned (.int .i64 (opE f K)) ∧ Below u.heap.size u w' := fun u bs y z H hx => by
    have := C3.out u bs gl M M y z H hx (by omega) (by omega)
    unfold opE wasF
    rw [← hM0.out]; exact this
  have hbd := fun j : Nat => dot_bd (a := nowF f) (b := wasF f j) (n := 80) (fun i _ => HF.out _) (fun i _ => HF.out _)
  have hbe := fun j : Nat => dot_bd (a := wasF f j) (b := wasF f j) (n := 80) (fun i _ => HF.out _) (fun i _ => HF.out _)
  have x1 := (hbd best).2
  have x2 := (hbd K).2
  have x3 := (hbe best).2
  have x4 := (hbe K).2
  have kb := fun u : World => Better_any (opC f K) (opE f K) (opC f best) (opE f best) u (by unfold opC; omega) (by unfold opE; omega) (by unfold opC; omega) (by unfold opE; omega)
  have hlaw : opC f K ≤ 0 ∨ (0 < opC f K ∧ 0 < opC f best ∧ betterB (opC f K) (opE f K) (opC f best) (opE f best) = false) := by
    by_cases h0 : opC f K ≤ 0
    · exact .inl h0
    · rcases HBest.out with ⟨_, _, _, h4⟩ | ⟨_, _, h3, h4, h5, _, h7⟩
      · exact absurd (h4 K hK.1 (by omega)) h0
      · refine .inr ⟨by omega, by rw [← h3]; exact h5, ?_⟩
        rw [← h3, ← h4]
        exact h7 K hK.1 (by omega) (by omega)
  have K1 := Lib.hid k1
  have K2 := Lib.hid k2
  have K3 := Lib.hid k3
  have K4 := Lib.hid k4
  clear k1 k2 k3 k4 hbd hbe x1 x2 x3 x4 HBest C3 hm0 hM0 l3 l4
  generalize betterB (opC f K) (opE f K) (opC f best) (opE f best) = t at *
  generalize opC f K = CK at *
  generalize opC f best = CB at *
  generalize opE f K = EK at *
  generalize opE f best = EB at *
  have KB := Lib.hid kb
  clear kb
  rcases hlaw with h0 | ⟨h0, h1, h2⟩
  · have d3 := le_yes h0
    clear h0
    go_wp2_with (first | (go_at_call 7; (with_reducible refine (hears_any _ (hT.has H)).mono ?_); rintro e w1 ⟨rfl, hb⟩; replace H := H.callee hb; clear hb) | (go_at_call 8; (with_reducible refine (C2.out _).mono ?_); rintro e w1 ⟨rfl, rfl⟩) | (go_at_call 9; (with_reducible refine (K1.out _ _ _ _ H (by repeat (first | exact List.mem_cons_self | apply List.mem_cons_of_mem | apply List.mem_append_right))).mono ?_); rintro e w1 ⟨rfl, hb⟩; replace H := H.callee hb; clear hb) | (go_at_call 9; (with_reducible refine (K2.out _ _ _ _ H (by repeat (first | exact List.mem_cons_self | apply List.mem_cons_of_mem | apply List.mem_append_right))).mono ?_); rintro e w1 ⟨rfl, hb⟩; replace H := H.callee hb; clear hb))
    go_ret
    exact ⟨rfl, H.below⟩
  · have d3 := le_no h0
    have d4 := lt_yes h1
    subst h2
    clear h0 h1
    go_wp2_with (first | (go_at_call 7; (with_reducible refine (hears_any _ (hT.has H)).mono ?_); rintro e w1 ⟨rfl, hb⟩; replace H := H.callee hb; clear hb) | (go_at_call 8; (with_reducible refine (C2.out _).mono ?_); rintro e w1 ⟨rfl, rfl⟩) | (go_at_call 9; (with_reducible refine (K1.out _ _ _ _ H (by repeat (first | exact List.mem_cons_self | apply List.mem_cons_of_mem | apply List.mem_append_right))).mono ?_); rintro e w1 ⟨rfl, hb⟩; replace H := H.callee hb; clear hb) | (go_at_call 9; (with_reducible refine (K2.out _ _ _ _ H (by repeat (first | exact List.mem_cons_self | apply List.mem_cons_of_mem | apply List.mem_append_right))).mono ?_); rintro e w1 ⟨rfl, hb⟩; replace H := H.callee hb; clear hb) | (go_at_call 9; (with_reducible refine (K3.out _ _ _ _ H (by repeat (first | exact List.mem_cons_self | apply List.mem_cons_of_mem | apply List.mem_append_right))).mono ?_); rintro e w1 ⟨rfl, hb⟩; replace H := H.callee hb; clear hb) | (go_at_call 9; (with_reducible refine (K4.out _ _ _ _ H (by repeat (first | exact List.mem_cons_self | apply List.mem_cons_of_mem | apply List.mem_append_right))).mono ?_); rintro e w1 ⟨rfl, hb⟩; replace H := H.callee hb; clear hb) | (go_at_call 10; (with_reducible refine (KB.out _).mono ?_); rintro e w1 ⟨rfl, hb⟩; replace H := H.callee hb; clear hb))
    go_ret
    exact ⟨rfl, H.below⟩
theorem openBest_walk (P : Option Addr) (n cap : Nat) (ad : Addr) (f : Nat → Int) (hn : n ≤ 9223372036854775807) {w : World} (hR : ReadsA w P n ad f) (x : Int) (hT : Gains w) :
    Calls Tryd.prog 3 #[.slice P n cap, .int .i64 x] w fun e w' => e = .returned (.bool true) ∧ Below w.heap.size w w' :=
  openBest_in (listF n f) P n cap (20 + x % 60).toNat x w hT (fun i => listF_bd n f i) (by omega) (fun w' hb => lists_any P n cap ad f 159 w' hn (by omega) (by omega) (hR.below hb))
    (fun w => by have := spot_any x 60 w (by omega) (by omega); rwa [show (((20 + x % 60).toNat : Nat) : Int) - 20 = x % 60 by omega])
end Go.Proofs.YtabplcaeglnalaaDoor
