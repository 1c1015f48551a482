/-
  pack: the inner functions put and get walked. No statement is proved here.
-/
import Derived.Test.YthddmgnjahmceaaDoorPackGood
import Derived.Test.YthddmgnjahmceaaDoorParity
namespace Go.Proofs.YthddmgnjahmceaaDoor
open Go.RowKit
/-- n bytes as cells. -/
def rowU (n : Nat) (f : Nat → Nat) : Array Value := rowV n fun i => .int .u8 (f i : Nat)
theorem rowU_size (n : Nat) (f : Nat → Nat) : (rowU n f).size = n := rowV_size _ _
theorem rowU_get {n i : Nat} (f : Nat → Nat) (h : i < n) : (rowU n f)[i]? = some (.int .u8 (f i : Nat)) := rowV_get _ h
theorem rowU_congr {n : Nat} {f g : Nat → Nat} (h : ∀ i, i < n → f i = g i) : rowU n f = rowU n g := rowV_congr fun i hi => by rw [h i hi]
theorem rowU_set {n k : Nat} (f g : Nat → Nat) (v : Nat) (h : ∀ i, i < n → g i = if i = k then v else f i) : (rowU n f).setIfInBounds k (.int .u8 (v : Nat)) = rowU n g := by
  refine rowV_ext (by simp [rowU_size]) fun i hi => ?_
  rw [Array.getElem?_setIfInBounds, rowU_size, h i hi]
  by_cases e : k = i
  · rw [if_pos e, if_pos (by omega), if_pos e.symm]
  · rw [if_neg e, if_neg (fun e' => e e'.symm), rowU_get _ hi]
theorem ones_load_cell {P : Program} {o : Oper} {a : Act} {Q : Exit → Act → World → Prop} {u : World} {ops : Array Oper} {quiet : List Nat} {rest : List Oper} (ty : TypeId) (x : Operand) (hk : kindOf quiet o = 2) (hg : Region.wanted o (yielded ops a.tmps) = true) (ho : o.op = .load ty x) {p : Addr} {v : Value} (hx : a.eval x = .pointer (some p)) (hs : scalarOf P ty = true) (hv : u.cell? p = some v)
    (h : Ones P ops quiet Q rest (a.put o.dst v) u) : Ones P ops quiet Q (o :: rest) a u := by
  refine ones_here hk hg ?_ h
  unfold execOp
  simp only [ho, hx, Instr.loadAt, Instr.sureAddr, Sem.run_bind, Sem.run_pure, Result.andThen_ok, run_loadVar_one hs hv]
set_option maxHeartbeats 3200000 in
theorem put_any (B : Nat → Nat) (hB : ∀ i, B i < 2) (v n a : Nat) (hn : n ≤ 6) (ha : a + n ≤ 112) (hv : v < 64) (hb : ∀ m, m < n → B (a + m) = bitOf v n m) (w0 u : World) (ga gb gi : Nat) (b0 b4 : Nat × TypeId × Array Value)
    (H : Has w0 u [b0, (gi, 3, #[.int .i64 (a : Nat)]), (ga, 30, #[.slice (some ⟨gb, 0, none⟩) 15 15]), (gb, 5, rowU 15 (byteN B a)), b4]) :
    Calls Tryd.prog 13 #[.int .i64 (v : Nat), .int .i64 (n : Nat), .pointer (some ⟨ga, 0, none⟩), .pointer (some ⟨gi, 0, none⟩)] u fun e w' => e = .returned (.tuple #[]) ∧
      Has w0 w' [b0, (gi, 3, #[.int .i64 (a + n : Nat)]), (ga, 30, #[.slice (some ⟨gb, 0, none⟩) 15 15]), (gb, 5, rowU 15 (byteN B (a + n))), b4] := by
  have HB := Lib.hid hB
  have Hb := Lib.hid hb
  clear hB hb
  go_enter Tryd.func13, Tryd.ntmps13
  go_wp2
  go_loopw [6] (fun k wr => ∃ m : Nat, m ≤ n ∧ k = .int .i64 ((n : Int) - 1 - m) ∧ Has w0 wr [b0, (gi, 3, #[.int .i64 (a + m : Nat)]), (ga, 30, #[.slice (some ⟨gb, 0, none⟩) 15 15]), (gb, 5, rowU 15 (byteN B (a + m))), b4]) (fun k _ => (intOf k + 1).toNat)
  case atStart => exact ⟨0, by omega, by go_num, H⟩
  clear H
  case round =>
    obtain ⟨m, hm, rfl, H⟩ := hrel
    by_cases hlt : m < n
    · have d : decide ((0 : Int) ≤ (n : Int) - 1 - m) = true := le_yes (by omega)
      have hnm : (n : Int) - 1 - m = ((n - 1 - m : Nat) : Int) := by omega
      have hbit := Lib.hid (Hb.out m hlt)
      have hat := Lib.hid (show a + (m + 1) = a + m + 1 by omega)
      have hk : n - 1 - m < 6 := by omega
      have ht : a + m < 112 := by omega
      rw [hnm] at d ⊢
      generalize htt : a + m = t at *
      generalize hkk : n - 1 - m = kk at *
      replace htt := Lib.hid htt
      replace hkk := Lib.hid hkk
      obtain ⟨q, hq⟩ : ∃ q, q = t / 8 := ⟨_, rfl⟩
      obtain ⟨r, hr⟩ : ∃ r, r = t % 8 := ⟨_, rfl⟩
      obtain ⟨s, hs⟩ : ∃ s, s = 7 - r := ⟨_, rfl⟩
      obtain ⟨x, hx⟩ : ∃ x, x = v / 2 ^ kk := ⟨_, rfl⟩
      obtain ⟨y, hy⟩ : ∃ y, y = x % 2 := ⟨_, rfl⟩
      have e8 : IntKind.i64.wrap ((t : Int) / 8) = (q : Int) := by
        rw [IntKind.wrap_i64]; omega
      have er : (t : Int).tmod 8 = (r : Int) := by rw [Int.tmod_eq_emod_of_nonneg (by omega)]; omega
      have es : IntKind.i64.wrap ((7 : Int) - r) = (s : Int) := by rw [IntKind.wrap_i64]; omega
      have eu : IntKind.u64.wrap (s : Int) = s := by rw [IntKind.wrap_u64]; omega
      have ex : (v : Int) / 2 ^ kk = (x : Int) := by rw [hx]; simp
      have ea : bits .and .i64 (x : Int) 1 = (y : Int) := by
        have := Nat.div_le_self v (2 ^ kk)
        rw [bits_and_1 x (by omega), hy]
      have ey : IntKind.u8.wrap (y : Int) = y := by rw [IntKind.wrap_u8]; omega
      have g8 : q < 15 := by omega
      have g9 : (0 : Int) ≤ (q : Int) ∧ (q : Int) < 15 := by omega
      have g9n : (q : Int).toNat = q := by omega
      have g7 : s < 8 := by omega
      have gy : y < 2 := by omega
      have kx : IntKind.u64.wrap (kk : Int) = kk := by rw [IntKind.wrap_u64]; omega
      obtain ⟨z, hz⟩ : ∃ z, z = y * 2 ^ s := ⟨_, rfl⟩
      have hz8 : z < 256 := by
        have h1 : y * 2 ^ s ≤ 1 * 2 ^ 7 := Nat.mul_le_mul (by omega) (Nat.pow_le_pow_right (by omega) (by omega))
        omega
      have e28 : IntKind.u8.wrap ((y : Int) * 2 ^ s) = (z : Int) := by
        have : ((y : Int) * 2 ^ s) = ((y * 2 ^ s : Nat) : Int) := by push_cast; rfl
        rw [this, ← hz, IntKind.wrap_u8]; omega
      have hBt : y = B t := by rw [hy, hx, hbit.out, ← hkk.out]; rfl
      have eo : bits .or .u8 (byteN B t q : Nat) (z : Int) = (byteN B (t + 1) q : Nat) := by
        rw [bits_or_u8 _ _ (byteN_lt HB.out _ _) hz8, hq, byteN_step HB.out t, hz, hBt, hs, hr]
      clear hBt
      replace hz := Lib.hid hz
      replace hq := Lib.hid hq
      replace hr := Lib.hid hr
      replace hs := Lib.hid hs
      replace hx := Lib.hid hx
      replace hy := Lib.hid hy
      clear hnm
      go_wp2
      refine wp_region_text [] (by kernel_rfl) (by kernel_rfl) (by kernel_rfl) ?_; replace H := H.drew; generalize World.drew _ = u at *
      repeat (first | (refine ones_load_one (v := .slice (some ⟨gb, 0, none⟩) 15 15) (o := ⟨_, .load 30 _, _, _, _, _⟩) H 30 _ rfl rfl rfl rfl (by repeat (first | exact List.mem_cons_self | apply List.mem_cons_of_mem | apply List.mem_append_right)) (by kernel_rfl) rfl ?_; simp only [Act.put, List.setIfInBounds_toArray, List.set_cons_zero, List.set_cons_succ]) | (refine ones_load_one (v := .int .i64 (t : Nat)) (o := ⟨_, .load 3 _, _, _, _, _⟩) H 3 _ rfl rfl rfl rfl (by repeat (first | exact List.mem_cons_self | apply List.mem_cons_of_mem | apply List.mem_append_right)) (by kernel_rfl) rfl ?_; simp only [Act.put, List.setIfInBounds_toArray, List.set_cons_zero, List.set_cons_succ]) | (refine ones_load_one (o := ⟨_, .load 5 _, _, _, _, _⟩) H 5 _ rfl rfl rfl rfl (by repeat (first | exact List.mem_cons_self | apply List.mem_cons_of_mem | apply List.mem_append_right)) (by kernel_rfl) (rowU_get _ g8) ?_; simp only [Act.put, List.setIfInBounds_toArray, List.set_cons_zero, List.set_cons_succ]) | (refine ones_free (v := ?_) rfl rfl ?_ ?_; rotate_left; (intro w'; go_simp; try with_reducible rfl); simp only [Act.put, List.setIfInBounds_toArray, List.set_cons_zero, List.set_cons_succ]))
      refine ones_eff (o := ⟨_, .store 5 _ _, _, _, _, _⟩) rfl rfl (fun K hK => ?_)
      refine wp_store_one (l1 := [_, _, _]) (v := .int .u8 (byteN B (t + 1) q : Nat)) (i := q) H 5 _ _ rfl rfl rfl (by kernel_rfl) (by rw [rowU_size]; omega) rfl ?_
      clear H
      intro u H
      refine hK _ _ ?_; clear hK K
      simp only [Act.put, List.setIfInBounds_toArray, List.set_cons_zero, List.set_cons_succ]
      simp only [List.cons_append, List.nil_append] at H
      rw [rowU_set (g := byteN B (t + 1)) _ _ (fun i hi => by
        by_cases e : i = q
        · rw [if_pos e, e]
        · rw [if_neg e, byteN_same (by rw [← hq.out]; exact e)])] at H
      refine ones_nil ?_
      go_wp2_with (first | ((refine wpList_on (o := ⟨_, .load 3 _, _, _, _, _⟩) rfl (fun K hK => ?_)); refine wp_load_one H 3 _ rfl rfl (by repeat (first | exact List.mem_cons_self | apply List.mem_cons_of_mem | apply List.mem_append_right)) (by kernel_rfl) rfl ?_; refine hK _ _ ?_; clear hK K) | ((refine wpList_on (o := ⟨_, .store 3 _ _, _, _, _, _⟩) rfl (fun K hK => ?_)); refine wp_store_one (l1 := [_]) H 3 _ _ rfl rfl rfl (by kernel_rfl) (by simp) (by rfl) ?_; clear H; intro u H; refine hK _ _ ?_; clear hK K; try simp only [Value.cells, List.cons_append, List.nil_append] at H))
      go_roundw
      case rel => exact ⟨m + 1, by omega, (by have h1 := hkk.out; congr 1; omega), by rw [hat.out]; exact H⟩
      case measure => simp [intOf]
    · have d : decide ((0 : Int) ≤ (n : Int) - 1 - m) = false := le_no (by omega)
      obtain rfl : m = n := by omega
      go_wp2
      refine bodyPost_end (results_none rfl _ _ _) rfl ?_
      exact ⟨rfl, H⟩
set_option maxHeartbeats 3200000 in
theorem get_any (b : Nat → Nat) (hb : ∀ i, b i < 256) (n a : Nat) (hn : n ≤ 6) (ha : a + n ≤ 112) (w0 u : World) (gb ga gi cap : Nat) (l0 : List (Nat × TypeId × Array Value)) (b3 : Nat × TypeId × Array Value) (hBy : Bytes w0 gb 15 b)
    (H : Has w0 u (l0 ++ [(gi, 3, #[.int .i64 (a : Nat)]), b3, (ga, 30, #[.slice (some ⟨gb, 0, none⟩) 15 cap])])) :
    Calls Tryd.prog 17 #[.int .i64 (n : Nat), .pointer (some ⟨ga, 0, none⟩), .pointer (some ⟨gi, 0, none⟩)] u fun e w' => e = .returned (.int .i64 (valB (bitB b) a n : Nat)) ∧
      Has w0 w' (l0 ++ [(gi, 3, #[.int .i64 (a + n : Nat)]), b3, (ga, 30, #[.slice (some ⟨gb, 0, none⟩) 15 cap])]) := by
  have HB := Lib.hid hb
  have HY := Lib.hid hBy
  clear hb hBy
  go_enter Tryd.func17, Tryd.ntmps17
  go_wp2
  go_loopw [5, 7] (fun v k wr => ∃ m : Nat, m ≤ n ∧ k = .int .i64 m ∧ v = .int .i64 (valB (bitB b) a m : Nat) ∧ Has w0 wr (l0 ++ [(gi, 3, #[.int .i64 (a + m : Nat)]), b3, (ga, 30, #[.slice (some ⟨gb, 0, none⟩) 15 cap])])) (fun _ k _ => n - (intOf k).toNat)
  case atStart => exact ⟨0, by omega, rfl, rfl, H⟩
  clear H
  case round =>
    obtain ⟨m, hm, rfl, rfl, H⟩ := hrel
    by_cases hlt : m < n
    · have hat := Lib.hid (show a + (m + 1) = a + m + 1 by omega)
      have hv := valB_lt (B := bitB b) (s := a) m (fun j _ => bitB_lt b _)
      have hv64 : valB (bitB b) a m < 64 := Nat.lt_of_lt_of_le hv (show 2 ^ m ≤ 2 ^ 6 from Nat.pow_le_pow_right (by omega) (by omega))
      have hval : Hid (valB (bitB b) a (m + 1) = 2 * valB (bitB b) a m + bitB b (a + m)) := rfl
      clear hv
      generalize hvv : valB (bitB b) a m = v at *
      replace hvv := Lib.hid hvv
      have ht : a + m < 112 := by omega
      generalize htt : a + m = t at *
      replace htt := Lib.hid htt
      obtain ⟨q, hq⟩ : ∃ q, q = t / 8 := ⟨_, rfl⟩
      obtain ⟨r, hr⟩ : ∃ r, r = t % 8 := ⟨_, rfl⟩
      obtain ⟨s, hs⟩ : ∃ s, s = 7 - r := ⟨_, rfl⟩
      obtain ⟨x, hx⟩ : ∃ x, x = b q / 2 ^ s := ⟨_, rfl⟩
      obtain ⟨y, hy⟩ : ∃ y, y = x % 2 := ⟨_, rfl⟩
      have e8 : IntKind.i64.wrap ((t : Int) / 8) = (q : Int) := by
        rw [IntKind.wrap_i64]; omega
      have er : (t : Int).tmod 8 = (r : Int) := by rw [Int.tmod_eq_emod_of_nonneg (by omega)]; omega
      have es : IntKind.i64.wrap ((7 : Int) - r) = (s : Int) := by rw [IntKind.wrap_i64]; omega
      have eu : IntKind.u64.wrap (s : Int) = s := by rw [IntKind.wrap_u64]; omega
      have ex : (b q : Int) / 2 ^ s = (x : Int) := by rw [hx]; simp
      have hb8 := HB.out q
      have hx8 : x < 256 := by have := Nat.div_le_self (b q) (2 ^ s); omega
      have ea : bits .and .u8 (x : Int) 1 = (y : Int) := by rw [bits_and_u8 x hx8, hy]
      have g8 : q < 15 := by omega
      have g9 : (0 : Int) ≤ (q : Int) ∧ (q : Int) < 15 := by omega
      have g9n : (q : Int).toNat = q := by omega
      have g7 : s < 8 := by omega
      have gy : y < 2 := by omega
      have hby : Hid (bitB b t = y) := Lib.hid (by unfold bitB; rw [hy, hx, hs, hr, hq])
      have ev : IntKind.i64.wrap ((v : Int) * 2) = ((v : Int) * 2) := by rw [IntKind.wrap_i64]; omega
      have eo : bits .or .i64 ((v : Int) * 2) (y : Int) = ((2 * v + y : Nat) : Int) := by
        have : ∀ v < 64, ∀ y < 2, (v * 2) ||| y = 2 * v + y := by decide +kernel
        have h1 := bits_or_nat (v * 2) y (by omega) (by omega)
        rw [this v hv64 y gy] at h1
        rw [← h1]; push_cast; rfl
      replace hq := Lib.hid hq
      replace hr := Lib.hid hr
      replace hs := Lib.hid hs
      replace hx := Lib.hid hx
      replace hy := Lib.hid hy
      go_wp2
      refine wp_region_text [] (by kernel_rfl) (by kernel_rfl) (by kernel_rfl) ?_; replace H := H.drew; generalize World.drew _ = u at *
      repeat (first | (refine ones_load_one (v := .slice (some ⟨gb, 0, none⟩) 15 cap) (o := ⟨_, .load 30 _, _, _, _, _⟩) H 30 _ rfl rfl rfl rfl (by repeat (first | exact List.mem_cons_self | apply List.mem_cons_of_mem | apply List.mem_append_right)) (by kernel_rfl) rfl ?_; simp only [Act.put, List.setIfInBounds_toArray, List.set_cons_zero, List.set_cons_succ]) | (refine ones_load_one (v := .int .i64 (t : Nat)) (o := ⟨_, .load 3 _, _, _, _, _⟩) H 3 _ rfl rfl rfl rfl (by repeat (first | exact List.mem_cons_self | apply List.mem_cons_of_mem | apply List.mem_append_right)) (by kernel_rfl) rfl ?_; simp only [Act.put, List.setIfInBounds_toArray, List.set_cons_zero, List.set_cons_succ]) | (refine ones_load_cell (o := ⟨_, .load 5 _, _, _, _, _⟩) 5 _ rfl rfl rfl rfl (by kernel_rfl) (H.old_cell (HY.out q g8)) ?_; simp only [Act.put, List.setIfInBounds_toArray, List.set_cons_zero, List.set_cons_succ]) | (refine ones_free (v := ?_) rfl rfl ?_ ?_; rotate_left; (intro w'; go_simp; try with_reducible rfl); simp only [Act.put, List.setIfInBounds_toArray, List.set_cons_zero, List.set_cons_succ]))
      refine ones_nil ?_
      go_wp2_with (first | ((refine wpList_on (o := ⟨_, .load 3 _, _, _, _, _⟩) rfl (fun K hK => ?_)); refine wp_load_one H 3 _ rfl rfl (by repeat (first | exact List.mem_cons_self | apply List.mem_cons_of_mem | apply List.mem_append_right)) (by kernel_rfl) rfl ?_; refine hK _ _ ?_; clear hK K) | ((refine wpList_on (o := ⟨_, .store 3 _ _, _, _, _, _⟩) rfl (fun K hK => ?_)); refine wp_store_one (l1 := l0) H 3 _ _ rfl rfl rfl (by kernel_rfl) (by simp) (by rfl) ?_; clear H; intro u H; refine hK _ _ ?_; clear hK K))
      go_roundw
      case rel => exact ⟨m + 1, by omega, by go_num, (by rw [hval.out, hby.out]; push_cast; rfl), by rw [hat.out]; exact H⟩
      case measure => simp [intOf]; omega
    · obtain rfl : m = n := by omega
      go_wp2
      go_ret
      exact ⟨rfl, H⟩
end Go.Proofs.YthddmgnjahmceaaDoor
