/-
  pitch: sat, right, dot, Open walked; the walk of OpenBest. No statement is proved here.
-/
import Derived.Test.YtabplcaeglnalaaDoorBestLaw
import Derived.Test.YtabplcaeglnalaaDoorLies
import Derived.Test.YtabplcaeglnalaaDoorNearest
namespace Go.Proofs.YtabplcaeglnalaaDoor
open Go.RowKit
theorem pitchSat_any (x : Int) (w : World) : Calls Tryd.prog 23 #[.int .i64 x] w fun e w' => e = .returned (.int .i64 (sat16 x)) ∧ w = w' := by
  go_enter Tryd.func23, Tryd.ntmps23
  go_wp2_with (go_at_call 26; (with_reducible refine (Sat16_any _ _).mono ?_); rintro e w1 ⟨rfl, rfl⟩)
  go_ret
  exact ⟨rfl, rfl⟩
theorem pitchSat_in (x : Int) (w : World) (h : In16 x) : Calls Tryd.prog 23 #[.int .i64 x] w fun e w' => e = .returned (.int .i64 x) ∧ w = w' := by
  have := pitchSat_any x w
  rw [sat16_in h] at this; exact this
set_option maxHeartbeats 800000 in
theorem pitchRight_l {f : Nat → Int} {n : Nat} {v : Value} {w : World} (hn : n ≤ 9223372036854775807) (hf : ∀ i, i < n → In16 (f i)) (L : Lies w v n f) : Calls Tryd.prog 17 #[v] w fun e w' => e = .returned (.bool true) ∧ w = w' := by
  obtain ⟨P, cap, b, o, rfl, hR⟩ := L
  have HF := Lib.hid hf
  clear hf
  go_enter Tryd.func17, Tryd.ntmps17
  go_wp2
  go_loop [7] (fun c => ∃ k : Nat, k ≤ n ∧ c = .int .i64 k) (fun c => n - (intOf c).toNat)
  case atStart => exact ⟨0, by omega, rfl⟩
  case round =>
    obtain ⟨k, hk, rfl⟩ := hrel
    by_cases hlt : k < n
    · obtain rfl := hR.ptr (by omega)
      have c1 := fun w => pitchSat_in (f k) w (HF.out k hlt)
      have C1 := Lib.hid c1
      clear c1
      go_wp2_with (first | ((refine wpList_on (o := ⟨_, .load 3 _, _, _, _, _⟩) rfl (fun K hK => ?_)); refine wp_load_num hR 3 _ rfl rfl (by kernel_rfl) hlt ?_; refine hK _ _ ?_; clear hK K) | (go_at_call 23; (with_reducible refine (C1.out _).mono ?_); rintro e w1 ⟨rfl, rfl⟩))
      go_round
      case rel => exact ⟨k + 1, by omega, by go_num⟩
      case measure => simp [intOf]; omega
    · obtain rfl : k = n := by omega
      go_wp2
      go_ret
      exact ⟨rfl, rfl⟩
set_option maxHeartbeats 1600000 in
theorem pitchDot_l {a b : Nat → Int} {n : Nat} {v v' : Value} {w : World} (hn : n ≤ 80) (ha : ∀ i, i < n → In16 (a i)) (hb : ∀ i, i < n → In16 (b i)) (L : Lies w v n a) (L' : Lies w v' n b) :
    Calls Tryd.prog 18 #[v, v'] w fun e w' => e = .returned (.int .i64 (dotF a b n)) ∧ w = w' := by
  obtain ⟨P, cap, g, o, rfl, hR1⟩ := L
  obtain ⟨P', cap', g', o', rfl, hR2⟩ := L'
  have HS : Hid (∀ k, k ≤ n → -(k * 1073741824) ≤ dotF a b k ∧ dotF a b k ≤ k * 1073741824) := fun k hk => dot_bd (fun i hi => ha i (by omega)) (fun i hi => hb i (by omega))
  have HT : Hid (∀ i, i < n → -1073741824 ≤ a i * b i ∧ a i * b i ≤ 1073741824) := fun i hi => by
    have h1 := ha i hi
    have h2 := hb i hi
    unfold In16 at h1 h2
    exact mul_bd _ _ 32768 32768 (by omega) (by omega) (by omega) (by omega)
  clear ha hb
  go_enter Tryd.func18, Tryd.ntmps18
  go_wp2
  go_loop [5, 10] (fun s c => ∃ k : Nat, k ≤ n ∧ c = .int .i64 k ∧ s = .int .i64 (dotF a b k)) (fun _ c => n - (intOf c).toNat)
  case atStart => exact ⟨0, by omega, rfl, rfl⟩
  case round =>
    obtain ⟨k, hk, rfl, rfl⟩ := hrel
    by_cases hlt : k < n
    · obtain rfl := hR1.ptr (by omega)
      obtain rfl := hR2.ptr (by omega)
      obtain ⟨b1, b2⟩ := HS.out k hk
      obtain ⟨t1, t2⟩ := HT.out k hlt
      have HN : Hid (dotF a b (k + 1) = dotF a b k + a k * b k) := rfl
      have s1 : IntKind.i64.wrap (a k * b k) = a k * b k := IntWalk.i64_in _ (by omega)
      generalize dotF a b k = S at *
      go_wp2_with (first | ((refine wpList_on (o := ⟨_, .load 3 _, _, _, _, _⟩) rfl (fun K hK => ?_)); refine wp_load_num hR1 3 _ rfl rfl (by kernel_rfl) hlt ?_; refine hK _ _ ?_; clear hK K) | ((refine wpList_on (o := ⟨_, .load 3 _, _, _, _, _⟩) rfl (fun K hK => ?_)); refine wp_load_num hR2 3 _ rfl rfl (by kernel_rfl) hlt ?_; refine hK _ _ ?_; clear hK K))
      go_round
      case rel => exact ⟨k + 1, by omega, by go_num, by
        rw [HN.out]⟩
      case measure => simp [intOf]; omega
    · obtain rfl : k = n := by omega
      go_wp2
      go_ret
      exact ⟨rfl, rfl⟩
theorem Reads.shift {u : World} {p : Option Addr} {n b o k m c : Nat} {f : Nat → Int} (h : Reads u p n b o f) (hk : k + m ≤ n) : Lies u (.slice (some ⟨b, o + k, none⟩) m c) m (fun i => f (k + i)) :=
  ⟨_, c, b, o + k, rfl, ⟨fun _ => rfl, fun i hi => by rw [Nat.add_assoc]; exact h.cell (k + i) (by omega)⟩⟩
def nowF (f : Nat → Int) (i : Nat) : Int := f (79 + i)
def wasF (f : Nat → Int) (j i : Nat) : Int := f (79 - j + i)
def opC (f : Nat → Int) (j : Nat) : Int := dotF (nowF f) (wasF f j) 80
def opE (f : Nat → Int) (j : Nat) : Int := dotF (wasF f j) (wasF f j) 80
def OpenPost (f : Nat → Int) (w : World) (e : Ending) (w' : World) : Prop := ∃ (best : Nat) (bc be : Int), e = .returned (.tuple #[.int .i64 best, .int .i64 0]) ∧ BestOf (opC f) (opE f) 80 bc be best ∧ Below w.heap.size w w'
set_option maxHeartbeats 6400000 in
set_option maxRecDepth 100000 in
theorem Open_any (f : Nat → Int) (b o cap : Nat) (w : World) (hf : ∀ i, i < 159 → In16 (f i)) (hcap : 159 ≤ cap) (hR : Reads w (some ⟨b, o, none⟩) 159 b o f) :
    Calls Tryd.prog 6 #[.slice (some ⟨b, o, none⟩) 159 cap] w (OpenPost f w) := by
  have H := Has.start w
  have HF := Lib.hid hf
  have L0 : ∀ u, Below w.heap.size w u → Lies u (.slice (some ⟨b, o, none⟩) 159 cap) 159 f := fun u hb => ⟨_, cap, b, o, rfl, hR.below hb⟩
  have c1 := fun (u : World) (hb : Below w.heap.size w u) => pitchRight_l (w := u) (by omega) hf (L0 u hb)
  have c2 := fun (u : World) (hb : Below w.heap.size w u) (m : Nat) (hm : m ≤ 59) (x y : Nat) => pitchDot_l (w := u) (n := 80) (by omega) (a := fun i => f (79 + i)) (b := fun i => f (m + i)) (fun i hi => hf _ (by omega)) (fun i hi => hf _ (by omega)) ((hR.below hb).shift (k := 79) (m := 80) (c := x) (by omega)) ((hR.below hb).shift (k := m) (m := 80) (c := y) (by omega))
  have c3 := fun (u : World) (hb : Below w.heap.size w u) (m : Nat) (hm : m ≤ 59) (x y : Nat) => pitchDot_l (w := u) (n := 80) (by omega) (a := fun i => f (m + i)) (b := fun i => f (m + i)) (fun i hi => hf _ (by omega)) (fun i hi => hf _ (by omega)) ((hR.below hb).shift (k := m) (m := 80) (c := x) (by omega)) ((hR.below hb).shift (k := m) (m := 80) (c := y) (by omega))
  have HP : Hid (∀ j, 0 < opC f j → 0 < opE f j) := fun j h => dot_pos h
  have HB1 : Hid (∀ j, j ≤ 79 → opC f j ≤ 85899345920) := fun j hj => by
    have := (dot_bd (a := nowF f) (b := wasF f j) (n := 80) (fun i hi => hf _ (by omega)) (fun i hi => hf _ (by omega))).2
    unfold opC; omega
  have HB2 : Hid (∀ j, j ≤ 79 → opE f j ≤ 85899345920) := fun j hj => by
    have := (dot_bd (a := wasF f j) (b := wasF f j) (n := 80) (fun i hi => hf _ (by omega)) (fun i hi => hf _ (by omega))).2
    unfold opE; omega
  have C1 := Lib.hid c1
  have C2 := Lib.hid c2
  have C3 := Lib.hid c3
  have n79 : ¬ cap = 79 := by omega
  clear c1 c2 c3 hf L0
  go_enter Tryd.func6, Tryd.ntmps6
  go_wp2_with (go_at_call 17; (with_reducible refine (C1.out _ H.below).mono ?_); rintro e w1 ⟨rfl, rfl⟩)
  clear C1
  go_loopw [5, 6, 7, 8] (fun x y z v wr => ∃ (k best : Nat) (bc be : Int), 20 ≤ k ∧ k ≤ 80 ∧ v = .int .i64 k ∧ x = .int .i64 best ∧ y = .int .i64 bc ∧ z = .int .i64 be ∧ Hid (BestOf (opC f) (opE f) k bc be best) ∧ Hid (bc ≤ 85899345920 ∧ be ≤ 85899345920) ∧ Has w wr []) (fun _ _ _ v _ => 80 - (intOf v).toNat)
  case atStart => exact ⟨20, 20, 0, 0, by omega, by omega, rfl, rfl, rfl, rfl, best_none _ _, ⟨by omega, by omega⟩, H⟩
  clear H
  case round =>
    obtain ⟨k, best, bc, be, hk0, hk, rfl, rfl, rfl, rfl, HI, HW, H⟩ := hrel
    by_cases hlt : k < 80
    · have q1 : (k : Int) ≤ 79 := by omega
      obtain ⟨m, hm⟩ : ∃ m, m = 79 - k := ⟨_, rfl⟩
      have s1 : IntKind.i64.wrap (79 - (k : Int)) = (m : Int) := by rw [IntWalk.i64_in _ (by omega)]; omega
      have m1 : m ≤ 59 := by omega
      have m2 : ¬ cap = m := by omega
      have hcE : Hid (dotF (fun i => f (79 + i)) (fun i => f (m + i)) 80 = opC f k) := by rw [hm]; exact rfl
      have heE : Hid (dotF (fun i => f (m + i)) (fun i => f (m + i)) 80 = opE f k) := by rw [hm]; exact rfl
      have b1 := HB1.out k (by omega)
      have b2 := HB2.out k (by omega)
      clear hm
      have k2 : ∀ (u : World), Below w.heap.size w u → ∀ x y : Nat, Calls Tryd.prog 18 #[.slice (some ⟨b, o + 79, none⟩) 80 x, .slice (some ⟨b, o + m, none⟩) 80 y] u fun e w' => e = .returned (.int .i64 (opC f k)) ∧ u = w' := fun u hb x y => by
        rw [← hcE.out]; exact C2.out u hb m m1 x y
      have k3 : ∀ (u : World), Below w.heap.size w u → ∀ x y : Nat, Calls Tryd.prog 18 #[.slice (some ⟨b, o + m, none⟩) 80 x, .slice (some ⟨b, o + m, none⟩) 80 y] u fun e w' => e = .returned (.int .i64 (opE f k)) ∧ u = w' := fun u hb x y => by
        rw [← heE.out]; exact C3.out u hb m m1 x y
      have kb := fun u : World => Better_any (opC f k) (opE f k) bc be u (by omega) (by omega) (by have := HW.out.1; omega) (by have := HW.out.2; omega)
      have i1 := fun h => best_skip HI.out h
      have i2 := fun h1 h2 => best_keep HI.out h1 h2
      have i3 := fun h1 h2 => best_take HI.out hk0 HP.out h1 h2
      have I1 := Lib.hid i1
      have I2 := Lib.hid i2
      have I3 := Lib.hid i3
      have D2 := Lib.hid k2
      have D3 := Lib.hid k3
      have HWn : Hid (opC f k ≤ 85899345920 ∧ opE f k ≤ 85899345920) := ⟨b1, b2⟩
      clear k2 k3 i1 i2 i3 hcE heE b1 b2
      generalize hbb : betterB (opC f k) (opE f k) bc be = t at *
      clear hbb
      have CB := Lib.hid kb
      clear kb
      generalize opC f k = C at *
      generalize opE f k = E at *
      by_cases hc : C ≤ 0
      · have HN := Lib.hid (I1.out hc)
        have d1 := lt_no hc
        clear I1 I2 I3 hc
        go_wp2_with (first | (go_at_call 18; (with_reducible refine (D2.out _ H.below _ _).mono ?_); rintro e w1 ⟨rfl, rfl⟩) | (go_at_call 18; (with_reducible refine (D3.out _ H.below _ _).mono ?_); rintro e w1 ⟨rfl, rfl⟩) | (go_at_call 10; (with_reducible refine (CB.out _).mono ?_); rintro e w1 ⟨rfl, hb⟩; replace H := H.callee hb; clear hb))
        go_roundw
        case rel => exact ⟨k + 1, best, bc, be, by omega, by omega, by go_num, rfl, rfl, rfl, HN, HW, H⟩
        case measure => simp [intOf]; omega
      · have hc' : 0 < C := by omega
        have d1 := lt_yes hc'
        by_cases hz : be = 0
        · have HN := Lib.hid (I3.out hc' (.inl hz))
          have d2 : (be == 0) = true := by simp [hz]
          clear I1 I2 I3 hc hc' hz
          go_wp2_with (first | (go_at_call 18; (with_reducible refine (D2.out _ H.below _ _).mono ?_); rintro e w1 ⟨rfl, rfl⟩) | (go_at_call 18; (with_reducible refine (D3.out _ H.below _ _).mono ?_); rintro e w1 ⟨rfl, rfl⟩) | (go_at_call 10; (with_reducible refine (CB.out _).mono ?_); rintro e w1 ⟨rfl, hb⟩; replace H := H.callee hb; clear hb))
          go_roundw
          case rel => exact ⟨k + 1, k, C, E, by omega, by omega, by go_num, rfl, rfl, rfl, HN, HWn, H⟩
          case measure => simp [intOf]; omega
        · have d2 : (be == 0) = false := by simp [hz]
          cases t
          · have HN := Lib.hid (I2.out hz rfl)
            clear I1 I2 I3 hc hc' hz
            go_wp2_with (first | (go_at_call 18; (with_reducible refine (D2.out _ H.below _ _).mono ?_); rintro e w1 ⟨rfl, rfl⟩) | (go_at_call 18; (with_reducible refine (D3.out _ H.below _ _).mono ?_); rintro e w1 ⟨rfl, rfl⟩) | (go_at_call 10; (with_reducible refine (CB.out _).mono ?_); rintro e w1 ⟨rfl, hb⟩; replace H := H.callee hb; clear hb))
            go_roundw
            case rel => exact ⟨k + 1, best, bc, be, by omega, by omega, by go_num, rfl, rfl, rfl, HN, HW, H⟩
            case measure => simp [intOf]; omega
          · have HN := Lib.hid (I3.out hc' (.inr rfl))
            clear I1 I2 I3 hc hc' hz
            go_wp2_with (first | (go_at_call 18; (with_reducible refine (D2.out _ H.below _ _).mono ?_); rintro e w1 ⟨rfl, rfl⟩) | (go_at_call 18; (with_reducible refine (D3.out _ H.below _ _).mono ?_); rintro e w1 ⟨rfl, rfl⟩) | (go_at_call 10; (with_reducible refine (CB.out _).mono ?_); rintro e w1 ⟨rfl, hb⟩; replace H := H.callee hb; clear hb))
            go_roundw
            case rel => exact ⟨k + 1, k, C, E, by omega, by omega, by go_num, rfl, rfl, rfl, HN, HWn, H⟩
            case measure => simp [intOf]; omega
    · obtain rfl : k = 80 := by omega
      go_wp2
      go_ret2
      exact ⟨best, bc, be, rfl, HI.out, H.below⟩
end Go.Proofs.YtabplcaeglnalaaDoor
