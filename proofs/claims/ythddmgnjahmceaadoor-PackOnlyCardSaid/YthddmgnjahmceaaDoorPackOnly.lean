/-
  PackOnly walked. No statement is proved here.
-/
import Derived.Test.YthddmgnjahmceaaDoorPackTurned
import Derived.ChangeSlices
import Derived.Laws.IdiomStrings
namespace Go.Proofs.YthddmgnjahmceaaDoor
open Go.ChangeShapes Go.WideShapes Go.ChangeAt Go.RowKit
theorem lits_lenB (k : IntKind) (zs : List Int) {H : Type} : (lits (H := H) k zs).length = zs.length := by
  induction zs with
  | nil => rfl
  | cons z zs ih => exact congrArg (· + 1) ih
/-- An argument that is a slice of bytes, opened. -/
def ByteArg (w : World) (A : Option Addr) (len cap : Nat) : Prop := (A = none ∧ len = 0 ∧ cap = 0) ∨ ∃ (ad : Addr) (f : Nat → Nat), A = some ad ∧ len ≤ cap ∧ (∀ i, i < len → w.cell? (ad.add i) = some (.int .u8 (f i : Nat))) ∧ ∀ i, f i < 256
theorem open_bytes {H : Type} {enc : TypeId × Value → H} {P : Program} {w : World} {base : Nat} {spare : Nat → Bool} {held : Bool} {t e : TypeId} {A : Option Addr} {len cap : Nat} {d : DataW H} {p : List MemPlace}
    (ht : P.underlying t = some (.slice e)) (he : P.underlying e = some (.int .u8)) (hc : P.cellsOf e = 1) (h : DataW.Trod enc P w base spare held t (.slice A len cap) d p) :
    ByteArg w A len cap ∧ (len = 0 ∨ ∃ es sp, d = .slice es sp ∧ len ≤ es.length + sp.length) := by
  obtain ⟨fuel, hf⟩ := h
  have hv : (Value.slice A len cap).cells.toList = [.slice A len cap] := rfl
  rw [hv] at hf
  rcases open_ints ht he hc hf with ⟨h1, _⟩ | ⟨a, len', cap', zs, h1, _, hl, hm, hlen, hx, hcell, hwf⟩
  · injection h1 with h1
    injection h1 with e1 e2 e3
    exact ⟨.inl ⟨e1, e2, e3⟩, .inl e2⟩
  · injection h1 with h1
    injection h1 with e1 e2 e3
    subst e1 e2 e3
    have hz : len ≤ zs.length := by rw [hlen]; split <;> omega
    have hbd : ∀ i, 0 ≤ zs.getD i 0 ∧ zs.getD i 0 < 256 := fun i => by
      by_cases hi : i < zs.length
      · have hmem : zs.getD i 0 ∈ zs := by
          rw [List.getD_eq_getElem?_getD, List.getElem?_eq_getElem hi]
          exact List.getElem_mem hi
        have hw := hwf _ hmem
        generalize zs.getD i 0 = z at *
        simp [Lit.wf, IntKind.min, IntKind.max, IntKind.signed, IntKind.bits] at hw
        omega
      · rw [List.getD_eq_getElem?_getD, List.getElem?_eq_none (by omega)]
        simp
    refine ⟨.inr ⟨a, fun i => (zs.getD i 0).toNat, rfl, hl, fun i hi => ?_, fun i => ?_⟩, .inr ⟨_, _, congrArg Prod.fst hx, ?_⟩⟩
    · have := hbd i
      rw [hcell i (by omega)]
      show some (Value.int .u8 (zs.getD i 0)) = some (.int .u8 (((zs.getD i 0).toNat : Nat) : Int))
      generalize zs.getD i 0 = z at *
      congr 2
      omega
    · have := hbd i
      show (zs.getD i 0).toNat < 256
      omega
    · rw [lits_lenB, lits_lenB, List.length_take, List.length_drop]
      omega
/-- Fifteen bytes as a string. -/
def strB (f : Nat → Nat) : ByteArray := ⟨((List.range 15).map fun i => UInt8.ofNat (f i)).toArray⟩
theorem wp_conv_bytes {P : Program} {o : Oper} {a : Act} {K : Act → World → Prop} {Q : Exit → Act → World → Prop} {u : World} {src dst e : TypeId} (x : Operand) (ho : o.op = .convert src dst x) {ad : Addr} {c : Nat} {f : Nat → Nat} (hx : a.eval x = .slice (some ad) 15 c) (hs : P.underlying src = some (.slice e)) (he : P.underlying e = some (.int .u8)) (hd : P.underlying dst = some .string)
    (hc : ∀ i, i < 15 → u.cell? (ad.add i) = some (.int .u8 (f i : Nat))) (hf : ∀ i, f i < 256) (h : K (a.put o.dst (.string (strB f))) u) : o.wp P a u K Q := by
  have hr := run_convert_bytes_back (P := P) u src dst e ad c ((List.range 15).map fun i => UInt8.ofNat (f i)) hs he hd (fun j hj => by
    have hj' : j < 15 := by simpa using hj
    rw [hc j hj']
    have := hf j
    simp [UInt8.toNat_ofNat']
    omega)
  rw [show ((List.range 15).map fun i => UInt8.ofNat (f i)).length = 15 by simp] at hr
  unfold Oper.wp execOp
  simp only [ho, hx, Sem.run_bind, hr, Result.andThen_ok, Sem.run_pure]
  exact h
theorem strB_eql (f : Nat → Nat) (w : World) : (binOp .eql 9 (.string (strB f)) (.string (strB f))).run Tryd.prog w = .ok (.bool true) w := by
  go_simp
theorem wp_append_bytes {P : Program} {o : Oper} {a : Act} {K : Act → World → Prop} {Q : Exit → Act → World → Prop} {w0 u : World} {bs : List (Nat × TypeId × Array Value)} {t e : TypeId} (H : Has w0 u bs) (s_ x_ : Operand) (ho : o.op = .call { callee := .builtin .append, args := #[s_, x_], argTypes := #[t, t] }) {x : Value} {m : Nat} {f : Nat → Nat} (hs : a.eval s_ = .slice none 0 0) (hx : a.eval x_ = x) (ht : sliceOf P t e 1 1 = true)
    (S : From P t 1 x m (fun i => .int .u8 (f i : Nat)) u) (hm : m ≤ 140737488351232)
    (h : ∀ v' u' tl', Rowed e 1 v' m (fun i => .int .u8 (f i : Nat)) tl' → Has w0 u' (bs ++ tl') → K (a.put o.dst v') u') : o.wp P a u K Q := by
  have H' : Has w0 u (bs ++ []) := by rw [List.append_nil]; exact H
  have hmx : maxLen = 9223372036854775807 := rfl
  refine wp_append_has (bs := bs) (B := 1) s_ x_ t ho H' (Rowed.nil e 1 (fun i => .int .u8 (f i : Nat))) hs hx ht S (by omega) (by omega) fun v' u' tl' R' H2 => ?_
  rw [Nat.zero_add] at R'
  refine h v' u' tl' (R'.congr fun i hi => ?_) H2
  unfold glue
  rw [if_neg (by omega)]; rfl
set_option maxHeartbeats 1600000 in
theorem Unpack_size (p : Option Addr) (n cap : Nat) (w : World) (hn : n ≠ 15) : Calls Tryd.prog 8 #[.slice p n cap] w fun e w' => e = .returned (.tuple #[.agg (row 25 fun _ => 0), .int .i64 1]) ∧ Below w.heap.size w w' := by
  have H := Has.start w
  have hn' : (n : Int) ≠ 15 := by omega
  have d : ((n : Int) == 15) = false := beq_eq_false_iff_ne.2 hn'
  go_enter Tryd.func8, Tryd.ntmps8
  go_wp2_with (first | ((refine wpList_on (o := ⟨_, .box _ (.tmp 0), _, _, _, _⟩) rfl (fun K hK => ?_)); refine wp_box H _ (.tmp 0) rfl (v := .slice p n cap) rfl ?_; clear H; intro u ga H; refine hK _ _ ?_; clear hK K; try simp only [Value.cells, List.cons_append, List.nil_append] at H) | ((refine wpList_on (o := ⟨some 2, .alloc 28, _, _, _, _⟩) rfl (fun K hK => ?_)); refine wp_alloc H 28 rfl (z := .agg (row 25 fun _ => 0)) (by kernel_rfl) ?_; clear H; intro u g2 H; refine hK _ _ ?_; clear hK K; try simp only [Value.cells] at H) | ((refine wpList_on (o := ⟨_, .load 30 _, _, _, _, _⟩) rfl (fun K hK => ?_)); refine wp_load_one H 30 _ rfl rfl (by repeat (first | exact List.mem_cons_self | apply List.mem_cons_of_mem | apply List.mem_append_right)) (by kernel_rfl) rfl ?_; refine hK _ _ ?_; clear hK K) | ((refine wpList_on (o := ⟨_, .store 28 _ _, _, _, _, _⟩) rfl (fun K hK => ?_)); refine wp_store_all (cs' := row 25 fun _ => 0) (l1 := []) H 28 _ _ rfl rfl rfl (by kernel_rfl) (by simp [row_size]) (row_one _ _) ?_; clear H; intro u H; refine hK _ _ ?_; clear hK K; simp only [List.cons_append, List.nil_append] at H))
  refine bodyPost_ret (results_has rfl _ H rfl (by repeat (first | exact List.mem_cons_self | apply List.mem_cons_of_mem | apply List.mem_append_right)) (by kernel_rfl)) rfl ⟨rfl, H.below⟩
theorem Bytes.ofCells {w0 u : World} {bs : List (Nat × TypeId × Array Value)} {g n : Nat} {t : TypeId} {cs : Array Value} {f : Nat → Nat} (H : Has w0 u bs) (hm : (g, t, cs) ∈ bs) (h : ∀ i, i < n → cs[i]? = some (.int .u8 (f i : Nat))) : Bytes u g n f := fun i hi => by
  rw [(H.at_ hm).cell, h i hi]
theorem only_str {f : Nat → Nat} (hf : ∀ i, f i < 256) (h : unpE f = 0) : rowU 15 (packB (unpF f) (parP (unpF f))) = rowU 15 f := rowU_congr fun j hj => pack_only hf h hj
set_option maxHeartbeats 6400000 in
set_option maxRecDepth 100000 in
theorem packOnly_walk (A : Option Addr) (len cap : Nat) (w : World) (hT : Widths w) (hA : ByteArg w A len cap) (hn : len ≤ 140737488351232) : Calls Tryd.prog 4 #[.slice A len cap] w fun e w' => e = .returned (.bool true) ∧ Below w.heap.size w w' := by
  have H := Has.start w
  have heq := fun w => packet_eql0 w
  have hsrc : ∃ f : Nat → Nat, (∀ i, f i < 256) ∧ From Tryd.prog 30 1 (.slice A len cap) len (fun i => .int .u8 (f i : Nat)) w ∧ (len = 15 → ∃ ad, A = some ad ∧ ∀ i, i < 15 → w.cell? (ad.add i) = some (.int .u8 (f i : Nat))) := by
    rcases hA with ⟨rfl, rfl, rfl⟩ | ⟨ad, f, rfl, hcap, hc, hf⟩
    · exact ⟨fun _ => 0, fun i => show 0 < 256 by omega, From.nil (e := 5) (B := 1) (by kernel_rfl) 0 _, fun h => by omega⟩
    · exact ⟨f, hf, From.cells (e := 5) (B := 1) (by kernel_rfl) (fun j hj => hc j (by omega)) (fun j _ => rfl), fun h => ⟨ad, rfl, fun i hi => hc i (by omega)⟩⟩
  clear hA
  obtain ⟨f, hf, hS, hlen⟩ := hsrc
  have HS := Lib.hid hS
  have HL := Lib.hid hlen
  have HF := Lib.hid hf
  clear hS hlen hf
  by_cases h15 : len = 15
  · subst h15
    obtain ⟨ad, rfl, hc⟩ := HL.out rfl
    have HC := Lib.hid hc
    clear HL hc
    have CU : Hid (∀ g c w, 15 ≤ c → Widths w → Bytes w g 15 f → Calls Tryd.prog 8 #[.slice (some ⟨g, 0, none⟩) 15 c] w fun e w' => e = .returned (.tuple #[.agg (row 25 (unpR f)), .int .i64 (unpE f : Nat)]) ∧ Below w.heap.size w w') := fun g c w hc hT hB => Unpack_any g c f w hT HF.out hB hc
    by_cases h0 : unpE f = 0
    · have CP : Hid (∀ w, Widths w → Calls Tryd.prog 7 #[.agg (row 25 (unpR f))] w fun e w' => ∃ g, e = .returned (.tuple #[.slice (some ⟨g, 0, none⟩) 15 15, .int .i64 0]) ∧ Has w w' [(g, 5, rowU 15 f)]) := fun w hT => by
        rw [unpR_yes h0]
        have h := Pack_any (unpF f) w hT (unp_good h0)
        rw [only_str HF.out h0] at h
        exact h
      rw [h0] at CU
      generalize unpR f = R at *
      have heq2 := fun w => strB_eql f w
      clear h0
      go_enter Tryd.func4, Tryd.ntmps4
      go_wp2_with (first | ((refine wpList_on (o := ⟨some 9, .call { callee := .builtin .append, args := #[_, _], argTypes := #[30, 30] }, _, _, _, _⟩) rfl (fun K hK => ?_)); refine wp_append_bytes (e := 5) (m := 15) (f := f) H _ _ rfl rfl rfl (by kernel_rfl) HS.out (by omega) ?_; (intro v' u' tl' R' H2; obtain ⟨gc, capc, csc, rfl, rfl, hcc, _, hcs⟩ := R'.some_ (by omega); clear R'; replace H := H2; clear H2; simp only [List.nil_append] at H; refine hK _ _ ?_; clear hK K)) | (go_at_call 8; (with_reducible refine (CU.out _ _ _ hcc (hT.has H) (Bytes.ofCells H (by repeat (first | exact List.mem_cons_self | apply List.mem_cons_of_mem | apply List.mem_append_right)) (fun i hi => hcs i (by omega)))).mono ?_); rintro e w1 ⟨rfl, hb⟩; replace H := H.callee hb; clear hb) | (refine wpList_on (o := ⟨some 3, .alloc 28, _, _, _, _⟩) rfl (fun K hK => ?_); refine wp_alloc H 28 rfl (z := (.agg (row 25 fun _ => 0))) (by kernel_rfl) ?_; clear H; intro u g3 H; refine hK _ _ ?_; clear hK K; try simp only [Value.cells, List.cons_append, List.nil_append] at H) | ((refine wpList_on (o := ⟨_, .store 28 _ _, _, _, _, _⟩) rfl (fun K hK => ?_)); refine wp_store_all (l1 := []) H 28 _ _ rfl rfl rfl (by kernel_rfl) (by simp [row_size]) (row_one _ _) ?_; clear H; intro u H; refine hK _ _ ?_; clear hK K; try simp only [Value.cells, List.cons_append, List.nil_append] at H) | ((refine wpList_on (o := ⟨_, .load 28 _, _, _, _, _⟩) rfl (fun K hK => ?_)); refine wp_load_all H 28 _ rfl rfl (by repeat (first | exact List.mem_cons_self | apply List.mem_cons_of_mem | apply List.mem_append_right)) (by kernel_rfl) ?_; refine hK _ _ ?_; clear hK K) | (go_at_call 7; (with_reducible refine (CP.out _ (hT.has H)).mono ?_); rintro e w1 ⟨gp, rfl, hb⟩; replace H := H.join hb; clear hb; (try simp only [List.cons_append, List.nil_append] at H)) | (go_at_call 9; (with_reducible refine (packs_any _ (hT.has H)).mono ?_); rintro e w1 ⟨rfl, hb⟩; replace H := H.callee hb; clear hb) | ((refine wpList_on (o := ⟨some 33, .convert _ _ _, _, _, _, _⟩) rfl (fun K hK => ?_)); refine wp_conv_bytes (e := 5) (f := f) _ rfl rfl Tryd.underlying30 Tryd.underlying5 Tryd.underlying9 (fun i hi => by rw [Addr.add_mid, Nat.zero_add]; exact Bytes.ofRow H (by repeat (first | exact List.mem_cons_self | apply List.mem_cons_of_mem | apply List.mem_append_right)) (Nat.le_refl 15) i hi) HF.out ?_; refine hK _ _ ?_; clear hK K) | ((refine wpList_on (o := ⟨some 35, .convert _ _ _, _, _, _, _⟩) rfl (fun K hK => ?_)); refine wp_conv_bytes (e := 5) (f := f) _ rfl rfl Tryd.underlying30 Tryd.underlying5 Tryd.underlying9 (fun i hi => H.old_cell (HC.out i hi)) HF.out ?_; refine hK _ _ ?_; clear hK K))
      go_ret
      exact ⟨rfl, H.below⟩
    · have hz : row 25 (unpR f) = row 25 fun _ => 0 := by rw [unpR_zero rfl h0]
      rw [hz] at CU
      have h0' : (unpE f : Int) ≠ 0 := by omega
      generalize unpE f = c at *
      clear hz
      go_enter Tryd.func4, Tryd.ntmps4
      go_wp2_with (first | ((refine wpList_on (o := ⟨some 9, .call { callee := .builtin .append, args := #[_, _], argTypes := #[30, 30] }, _, _, _, _⟩) rfl (fun K hK => ?_)); refine wp_append_bytes (e := 5) (m := 15) (f := f) H _ _ rfl rfl rfl (by kernel_rfl) HS.out (by omega) ?_; (intro v' u' tl' R' H2; obtain ⟨gc, capc, csc, rfl, rfl, hcc, _, hcs⟩ := R'.some_ (by omega); clear R'; replace H := H2; clear H2; simp only [List.nil_append] at H; refine hK _ _ ?_; clear hK K)) | (go_at_call 8; (with_reducible refine (CU.out _ _ _ hcc (hT.has H) (Bytes.ofCells H (by repeat (first | exact List.mem_cons_self | apply List.mem_cons_of_mem | apply List.mem_append_right)) (fun i hi => hcs i (by omega)))).mono ?_); rintro e w1 ⟨rfl, hb⟩; replace H := H.callee hb; clear hb) | (refine wpList_on (o := ⟨some 3, .alloc 28, _, _, _, _⟩) rfl (fun K hK => ?_); refine wp_alloc H 28 rfl (z := (.agg (row 25 fun _ => 0))) (by kernel_rfl) ?_; clear H; intro u g3 H; refine hK _ _ ?_; clear hK K; try simp only [Value.cells, List.cons_append, List.nil_append] at H) | ((refine wpList_on (o := ⟨_, .store 28 _ _, _, _, _, _⟩) rfl (fun K hK => ?_)); refine wp_store_all (l1 := []) H 28 _ _ rfl rfl rfl (by kernel_rfl) (by simp [row_size]) (row_one _ _) ?_; clear H; intro u H; refine hK _ _ ?_; clear hK K; try simp only [Value.cells, List.cons_append, List.nil_append] at H) | ((refine wpList_on (o := ⟨_, .load 28 _, _, _, _, _⟩) rfl (fun K hK => ?_)); refine wp_load_all H 28 _ rfl rfl (by repeat (first | exact List.mem_cons_self | apply List.mem_cons_of_mem | apply List.mem_append_right)) (by kernel_rfl) ?_; refine hK _ _ ?_; clear hK K) | (go_at_call 9; (with_reducible refine (packs_any _ (hT.has H)).mono ?_); rintro e w1 ⟨rfl, hb⟩; replace H := H.callee hb; clear hb))
      go_ret
      exact ⟨rfl, H.below⟩
  · have CU : Hid (∀ p c w, Calls Tryd.prog 8 #[.slice p len c] w fun e w' => e = .returned (.tuple #[.agg (row 25 fun _ => 0), .int .i64 1]) ∧ Below w.heap.size w w') := fun p c w => Unpack_size p len c w h15
    clear HL
    go_enter Tryd.func4, Tryd.ntmps4
    go_wp2_with (first | ((refine wpList_on (o := ⟨some 9, .call { callee := .builtin .append, args := #[_, _], argTypes := #[30, 30] }, _, _, _, _⟩) rfl (fun K hK => ?_)); refine wp_append_bytes (e := 5) (m := len) (f := f) H _ _ rfl rfl rfl (by kernel_rfl) HS.out hn ?_; (intro v' u' tl' R' H2; obtain ⟨pc, capc, rfl, hcc⟩ := R'.shape; clear R'; replace H := H2.sub (List.nil_sublist _); clear H2; refine hK _ _ ?_; clear hK K)) | (go_at_call 8; (with_reducible refine (CU.out _ _ _).mono ?_); rintro e w1 ⟨rfl, hb⟩; replace H := H.callee hb; clear hb) | (refine wpList_on (o := ⟨some 3, .alloc 28, _, _, _, _⟩) rfl (fun K hK => ?_); refine wp_alloc H 28 rfl (z := (.agg (row 25 fun _ => 0))) (by kernel_rfl) ?_; clear H; intro u g3 H; refine hK _ _ ?_; clear hK K; try simp only [Value.cells, List.cons_append, List.nil_append] at H) | ((refine wpList_on (o := ⟨_, .store 28 _ _, _, _, _, _⟩) rfl (fun K hK => ?_)); refine wp_store_all (l1 := []) H 28 _ _ rfl rfl rfl (by kernel_rfl) (by simp [row_size]) (row_one _ _) ?_; clear H; intro u H; refine hK _ _ ?_; clear hK K; try simp only [Value.cells, List.cons_append, List.nil_append] at H) | ((refine wpList_on (o := ⟨_, .load 28 _, _, _, _, _⟩) rfl (fun K hK => ?_)); refine wp_load_all H 28 _ rfl rfl (by repeat (first | exact List.mem_cons_self | apply List.mem_cons_of_mem | apply List.mem_append_right)) (by kernel_rfl) ?_; refine hK _ _ ?_; clear hK K) | (go_at_call 9; (with_reducible refine (packs_any _ (hT.has H)).mono ?_); rintro e w1 ⟨rfl, hb⟩; replace H := H.callee hb; clear hb))
    go_ret
    exact ⟨rfl, H.below⟩
end Go.Proofs.YthddmgnjahmceaaDoor
