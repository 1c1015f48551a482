/-
  Several texts of this claim, one behind the other: Memory, Tables, OpenS, OpenTalk, TopA, TopAlive. No statement is proved here.
-/
import Derived.Test.YtcoicmbjoaonoaaDoorZad
import Derived.Test.YtcoicmbjoaonoaaDoorZaj
import Derived.Test.YtcoicmbjoaonoaaDoorZaa
import Derived.ChangeSlices
import Derived.Deep.Slices
import Derived.Deep.Fields
import Derived.ChangeSame
import Derived.ChangeArms
import Derived.OpenShut
import Derived.Test.YtcoicmbjoaonoaaDoorZbb
/-
  roomy, stayed, scribble; Correlate and Open where the length is wrong. No statement is proved here.
-/
namespace Go.Proofs.YtcoicmbjoaonoaaDoor
set_option linter.unusedVariables false
set_option linter.unusedSimpArgs false
open Go.RowKit
set_option maxRecDepth 100000
/-- A list with room behind it. -/
def roomF (n : Nat) (f : Nat → Int) (i : Nat) : Int := if i < n then f i else if i = n then -4711 else -4712
def RoomPost (n : Nat) (f : Nat → Int) (w : World) (e : Ending) (w' : World) : Prop := ∃ g, e = .returned (.slice (some ⟨g, 0, none⟩) n (n + 2)) ∧ Has w w' [(g, 3, row (n + 2) (roomF n f))]
set_option maxHeartbeats 1600000 in
theorem roomy_any (P : Nat) (n cap : Nat) (f : Nat → Int) (w : World) (hn : n ≤ 100000) (hR : Reads w (some ⟨P, 0, none⟩) n P 0 f) :
    Calls Tryd.prog 28 #[.slice (some ⟨P, 0, none⟩) n cap] w (RoomPost n f w) := by
  have H := Has.start w
  have R := Lib.hid hR
  clear hR
  have hz : ((n : Int) + 2).toNat = n + 2 := by omega
  have h1 : n < n + 2 := by omega
  have h2 : n + 1 < n + 2 := by omega
  have h3 : n ≤ n + 2 := by omega
  have hmin : Nat.min n (n + 2) = n := Nat.min_eq_left (by omega)
  have hpat : Hid (patch (row (n + 2) fun _ => 0) 0 (cellsL n fun i => .int .i64 (f i)) = row (n + 2) (fun i => if 0 ≤ i ∧ i < 0 + n then f (i - 0) else 0)) := row_patchL (fun _ => 0) f (by omega)
  go_enter Tryd.func28, Tryd.ntmps28
  go_wp2_with (first | ((refine wpList_on (o := ⟨some 7, .makeSlice _ _ _, _, _, _, _⟩) rfl (fun K hK => ?_)); refine wp_make_has (t_ := 35) (e := 3) H _ _ rfl ((n : Int) + 2) .i64 .i64 rfl rfl ?_ ?_ ?_ ?_ ?_; (kernel_rfl); (kernel_rfl); (omega); (omega); (clear H; intro u g H; refine hK _ _ ?_; clear hK K; try simp only [Value.cells, List.cons_append, List.nil_append] at H)) | ((refine wpList_on (o := ⟨_, .call { callee := .builtin .copy, args := #[_, _], argTypes := #[35, 35] }, _, _, _, _⟩) rfl (fun K hK => ?_)); (simp only [hz] at H); refine wp_copy_has (l1 := []) H _ _ 35 35 3 rfl (m := n) (nw := f) rfl rfl (by kernel_rfl) hmin (fun j hj => by have := (R.out.has H).cell j hj; rw [Addr.add_mid]; exact this) (by rw [row_size]; omega) hpat.out ?_; clear H; intro u H; (try simp only [List.nil_append] at H); refine hK _ _ ?_; clear hK K) | ((refine wpList_on (o := ⟨_, .store 3 _ _, _, _, _, _⟩) rfl (fun K hK => ?_)); (try simp only [Act.put, List.setIfInBounds_toArray, List.set_cons_zero, List.set_cons_succ]); refine wp_store_row_ (l1 := []) H 3 _ _ rfl rfl rfl (by kernel_rfl) (by omega) ?_; clear H; intro u H; refine hK _ _ ?_; clear hK K; try simp only [Value.cells, List.cons_append, List.nil_append] at H))
  go_ret
  refine ⟨g, rfl, ?_⟩
  have e : row (n + 2) (fun i => if i = n + 1 then -4712 else if i = n then -4711 else if 0 ≤ i ∧ i < 0 + n then f (i - 0) else 0) = row (n + 2) (roomF n f) := row_congr fun i hi => by
    unfold roomF
    by_cases a : i < n
    · rw [if_neg (by omega), if_neg (by omega), if_pos (by omega), if_pos a, Nat.sub_zero]
    · by_cases b : i = n
      · rw [if_neg (by omega), if_pos b, if_neg a, if_pos b]
      · rw [if_pos (by omega), if_neg a, if_neg b]
  rw [← e]
  exact H
set_option maxHeartbeats 1600000 in
/-- What was not changed stayed. -/
theorem stayed_any (g g' : Nat) (n : Nat) (f : Nat → Int) (w : World) (hn : n ≤ 100000) (hA : ∀ i, i < n + 2 → w.cell? ⟨g, i, none⟩ = some (.int .i64 (roomF n f i))) (hR : Reads w (some ⟨g', 0, none⟩) n g' 0 f) :
    Calls Tryd.prog 31 #[.slice (some ⟨g, 0, none⟩) n (n + 2), .slice (some ⟨g', 0, none⟩) n n] w fun e w' => e = .returned (.bool true) ∧ Below w.heap.size w w' := by
  have H := Has.start w
  have h1 : n < n + 2 := by omega
  have h2 : n + 1 < n + 2 := by omega
  have h3 : n + 2 ≤ n + 2 := by omega
  have q1 := hA n (by omega)
  have q2 := hA (n + 1) (by omega)
  rw [show roomF n f n = -4711 by unfold roomF; rw [if_neg (by omega), if_pos rfl]] at q1
  rw [show roomF n f (n + 1) = -4712 by unfold roomF; rw [if_neg (by omega), if_neg (by omega)]] at q2
  have R1 : Reads w (some ⟨g, 0, none⟩) n g 0 f := ⟨fun _ => rfl, fun i hi => by
    have := hA i (by omega)
    rw [Nat.zero_add, this]; unfold roomF; rw [if_pos hi]⟩
  have c1 := Lib.hid (same_yes (some ⟨g, 0, none⟩) (some ⟨g', 0, none⟩) n (n + 2) g 0 n g' 0 f w (by omega) R1 hR)
  clear R1 hR hA
  go_enter Tryd.func31, Tryd.ntmps31
  go_wp2_with (first | (go_at_call 26; (with_reducible refine (c1.out).mono ?_); rintro e w1 ⟨rfl, hb⟩; replace H := H.callee hb; clear hb) | ((refine wpList_on (o := ⟨_, .load 3 _, _, _, _, _⟩) rfl (fun K hK => ?_)); refine wp_load_old H 3 _ rfl rfl (by kernel_rfl) (q1) ?_; refine hK _ _ ?_; clear hK K) | ((refine wpList_on (o := ⟨_, .load 3 _, _, _, _, _⟩) rfl (fun K hK => ?_)); refine wp_load_old H 3 _ rfl rfl (by kernel_rfl) (q2) ?_; refine hK _ _ ?_; clear hK K))
  go_ret
  exact ⟨rfl, H.below⟩
def ScribPost (w0 : World) (bs : List (Nat × TypeId × Array Value)) (e : Ending) (w' : World) : Prop := e = .returned (.tuple #[]) ∧ Has w0 w' bs
set_option maxHeartbeats 3200000 in
theorem scribble_own {w0 u : World} {bs tl : List (Nat × TypeId × Array Value)} {v : Value} {n : Nat} {f : Nat → Int} (hn : n ≤ 100000) (RO0 : Rowed 3 1 v n (fun i => .int .i64 (f i)) tl) (H : Has w0 u (bs ++ tl)) :
    Calls Tryd.prog 30 #[v] u (ScribPost w0 bs) := by
  obtain ⟨p, cap, rfl, hcap⟩ := RO0.shape
  go_enter Tryd.func30, Tryd.ntmps30
  go_wp2
  go_loopw [2] (fun c wr => ∃ (k : Nat) (tl : List (Nat × TypeId × Array Value)), k ≤ n ∧ c = .int .i64 k ∧ Hid (∃ f : Nat → Int, Rowed 3 1 (.slice p n cap) n (fun i => .int .i64 (f i)) tl) ∧ Has w0 wr (bs ++ tl)) (fun c _ => n - (intOf c).toNat)
  case atStart => exact ⟨0, tl, by omega, rfl, ⟨f, RO0⟩, H⟩
  clear H RO0
  case round =>
    obtain ⟨k, tl, hk, rfl, RO, H⟩ := hrel
    obtain ⟨f, RO⟩ := RO.out
    by_cases hlt : k < n
    · rcases RO with ⟨_, h0, _⟩ | ⟨g, cap', cs, hv, rfl, hc1, hc2, hc3, hc4⟩
      · omega
      injection hv with hv1 hv2 hv3
      subst hv1 hv3
      have hks : k < cs.size := by omega
      have RO' : Hid (∃ f : Nat → Int, Rowed 3 1 (.slice (some ⟨g, 0, none⟩) n cap) n (fun i => .int .i64 (f i)) [(g, 3, cs.setIfInBounds k (.int .i64 (-99)))]) := by
        refine ⟨fun i => if i = k then -99 else f i, .inr ⟨g, cap, _, rfl, rfl, hc1, hc2, by simpa using hc3, fun i hi => ?_⟩⟩
        by_cases e : i = k
        · have hi2 : k < cs.size := by omega
          rw [e]
          simp [hi2]
        · rw [Array.getElem?_setIfInBounds_ne (by omega), hc4 i hi]
          simp [e]
      clear RO hc4
      go_wp2_with ((refine wpList_on (o := ⟨_, .store 3 _ _, _, _, _, _⟩) rfl (fun K hK => ?_)); refine wp_store_one (l1 := bs) (l2 := []) H 3 _ _ rfl rfl rfl (by kernel_rfl) hks rfl ?_; clear H; intro u H; refine hK _ _ ?_; clear hK K)
      go_roundw
      case rel => exact ⟨k + 1, _, by omega, by go_num, RO', H⟩
      case measure => simp [intOf]; omega
    · have hlt' : k = n := by omega
      subst hlt'
      go_wp2_with (first | ((refine wpList_on (o := ⟨some 13, .buildSlice _ _ _, _, _, _, _⟩) rfl (fun K hK => ?_)); refine wp_made H (elem := 3) (n := 3) (cs := row 3 (fun _ => -99)) (by kernel_rfl) ?_; clear H; intro u gs H; refine hK _ _ ?_; clear hK K) | ((refine wpList_on (o := ⟨some 14, .call _, _, _, _, _⟩) rfl (fun K hK => ?_)); refine wp_append_has (bs := (gs, 3, row 3 fun _ => -99) :: bs) (e := 3) (s := 1) (B := 8) (m := 3) (nw := fun _ => .int .i64 (-99)) _ _ 35 rfl H RO rfl rfl ?_ ?_ ?_ ?_ ?_; (kernel_rfl); (refine From.block (e := 3) (B := 8) H ?_ List.mem_cons_self ?_ ?_; (kernel_rfl); (intro j hj; exact row_get _ (by omega)); (intro j hj; rfl)); (unfold maxLen; omega); (omega); (clear H; intro v' u tl' RO2 H; obtain ⟨g2, cap2, cs2, rfl, rfl, hc2, hsz2, hcs2⟩ := RO2.some_ (by omega); clear RO2; have hk2 : 0 < cs2.size := (by omega); refine hK _ _ ?_; clear hK K)) | ((refine wpList_on (o := ⟨_, .store 3 _ _, _, _, _, _⟩) rfl (fun K hK => ?_)); refine wp_store_one (l1 := (gs, 3, row 3 fun _ => -99) :: bs) (l2 := []) H 3 _ _ rfl rfl rfl (by kernel_rfl) hk2 rfl ?_; clear H; intro u H; refine hK _ _ ?_; clear hK K))
      refine bodyPost_end (results_none rfl _ _ _) rfl ?_
      exact ⟨rfl, H.sub (List.Sublist.cons _ (List.sublist_append_left _ _))⟩
def SomePost (w : World) (e : Ending) (w' : World) : Prop := ∃ v, e = .returned v ∧ Below w.heap.size w w'
set_option maxRecDepth 100000 in
set_option maxHeartbeats 1600000 in
theorem Correlate_no (P : Option Addr) (n cap : Nat) (w : World) (hn : n ≤ 80) : Calls Tryd.prog 34 #[.slice P n cap] w (SomePost w) := by
  have H := Has.start w
  have d1 : (n == 120) = false := by simp; omega
  have d2 : ((n : Int) == 120) = false := by simp; omega
  go_enter Tryd.func34, Tryd.ntmps34
  go_wp2_with (first | (refine wpList_on (o := ⟨some 2, .alloc 77, _, _, _, _⟩) rfl (fun K hK => ?_); refine wp_alloc H 77 rfl (z := (.agg (row 9 fun _ => 0))) (by kernel_rfl) ?_; clear H; intro u g0 H; refine hK _ _ ?_; clear hK K; try simp only [Value.cells, List.cons_append, List.nil_append] at H) | (refine wpList_on (o := ⟨some 5, .alloc 77, _, _, _, _⟩) rfl (fun K hK => ?_); refine wp_alloc H 77 rfl (z := (.agg (row 9 fun _ => 0))) (by kernel_rfl) ?_; clear H; intro u gr H; refine hK _ _ ?_; clear hK K; try simp only [Value.cells, List.cons_append, List.nil_append] at H) | ((refine wpList_on (o := ⟨_, .load 77 _, _, _, _, _⟩) rfl (fun K hK => ?_)); (try simp only [Act.put, List.setIfInBounds_toArray, List.set_cons_zero, List.set_cons_succ]); refine wp_load_all H 77 _ rfl rfl (by repeat (first | exact List.mem_cons_self | apply List.mem_cons_of_mem | apply List.mem_append_right)) (by kernel_rfl) ?_; refine hK _ _ ?_; clear hK K) | ((refine wpList_on (o := ⟨_, .store 77 _ _, _, _, _, _⟩) rfl (fun K hK => ?_)); (try simp only [Act.put, List.setIfInBounds_toArray, List.set_cons_zero, List.set_cons_succ]); refine wp_store_all (l1 := [_]) H 77 _ _ rfl rfl rfl (by kernel_rfl) (by simp [row_size]) (row_one _ _) ?_; clear H; intro u H; refine hK _ _ ?_; clear hK K; try simp only [Value.cells, List.cons_append, List.nil_append] at H))
  refine bodyPost_ret (results_has3 rfl _ H rfl (by repeat (first | exact List.mem_cons_self | apply List.mem_cons_of_mem | apply List.mem_append_right)) (by kernel_rfl)) rfl ⟨_, rfl, H.below⟩
end Go.Proofs.YtcoicmbjoaonoaaDoor
/-
  One of several package-level tables, from the row's condition to how it lies in memory. No statement is proved here.
-/
namespace Go.Proofs.YtcoicmbjoaonoaaDoor
set_option linter.unusedVariables false
set_option linter.unusedSimpArgs false
open Go.RowKit Go.ChangeShapes Go.WideShapes
theorem laidVars_at {P : Program} {W : World} : ∀ (L : List (String × DataW Unit)) (ps : List MemPlace), DataW.LaidVars P W L ps → ∀ (i : Nat) (x : String × DataW Unit), L[i]? = some x →
    ∃ g t cs fuel p, P.globalNamed x.1 = some g ∧ (P.globals[g]?).map (·.type) = some t ∧ W.var? P x.1 = some cs ∧ DataW.trod (fun _ => ()) P W 0 (fun _ => true) false fuel t cs.toList = some (x.2, p)
  | [], _, _, i, x, hi => by simp at hi
  | (n, d) :: r, ps, h, 0, x, hi => by
    obtain ⟨g, t, cs, fuel, p, q, h1, h2, h3, h4, _⟩ := h
    simp only [List.getElem?_cons_zero, Option.some.injEq] at hi
    subst hi
    exact ⟨g, t, cs, fuel, p, h1, h2, h3, h4⟩
  | (n, d) :: r, ps, h, i + 1, x, hi => by
    obtain ⟨g, t, cs, fuel, p, q, _, _, _, _, h5, _⟩ := h
    rw [List.getElem?_cons_succ] at hi
    exact laidVars_at r q h5 i x hi
theorem laid_tableAt {P : Program} {W : World} {L : List (String × DataW Unit)} (i : Nat) {name : String} {G : Nat} {t e : TypeId} {l : List Int}
    (hi : L[i]? = some (name, DataW.agg (l.map fun i => .lit (.int .i64 i))))
    (hg : P.globalNamed name = some G) (htt : (P.globals[G]?).map (·.type) = some t)
    (ht : P.underlying t = some (.array l.length e)) (he : P.underlying e = some (.int .i64)) (hc : P.cellsOf t = l.length) (hce : P.cellsOf e = 1)
    (hp : (L.all fun x => x.2.handleName?.isNone) = true) (h : laidMetH P L W) : Table G l.length (fun i => l.getD i 0) W := by
  rw [MakeChecks.laidMetH_plain _ _ _ hp] at h
  obtain ⟨ps, h, _⟩ := h
  obtain ⟨g0, t0, cs0, f0, p0, hg0, ht0, hv0, hd0⟩ := laidVars_at L ps h i _ hi
  obtain rfl := Option.some.inj (hg.symm.trans hg0)
  obtain rfl := Option.some.inj (htt.symm.trans ht0)
  intro i hi
  rw [World.var?_cell hg hv0 i]
  exact laid_cells ht he hc hce hd0 i hi
end Go.Proofs.YtcoicmbjoaonoaaDoor
/-
  An argument that is a slice of integers, opened. No statement is proved here.
-/
namespace Go.Proofs.YtcoicmbjoaonoaaDoor
set_option linter.unusedVariables false
set_option linter.unusedSimpArgs false
open Go.ChangeShapes Go.WideShapes Go.ChangeAt Go.RowKit
theorem open_nums {H : Type} {enc : TypeId × Value → H} {P : Program} {w : World} {base : Nat} {spare : Nat → Bool} {held : Bool} {t e : TypeId} {A : Option Addr} {len cap : Nat} {d : DataW H} {p : List MemPlace}
    (ht : P.underlying t = some (.slice e)) (he : P.underlying e = some (.int .i64)) (hc : P.cellsOf e = 1) (h : DataW.Trod enc P w base spare held t (.slice A len cap) d p) :
    ∃ (ad : Addr) (f : Nat → Int), len ≤ 9223372036854775807 ∧ ReadsA w A len ad f := by
  obtain ⟨fuel, hf⟩ := h
  have hv : (Value.slice A len cap).cells.toList = [.slice A len cap] := rfl
  rw [hv] at hf
  rcases open_ints ht he hc hf with ⟨h1, _⟩ | ⟨a, len', cap', zs, h1, _, hl, hm, hlen, _, hcell, _⟩
  · injection h1 with h1
    injection h1 with e1 e2 e3
    subst e1 e2 e3
    exact ⟨⟨0, 0, none⟩, fun _ => 0, by omega, ⟨fun h => by omega, fun i hi => by omega⟩⟩
  · injection h1 with h1
    injection h1 with e1 e2 e3
    subst e1 e2 e3
    unfold maxLen at hm
    refine ⟨a, fun i => zs.getD i 0, by omega, ⟨fun _ => rfl, fun i hi => hcell i ?_⟩⟩
    rw [hlen]; split <;> omega
end Go.Proofs.YtcoicmbjoaonoaaDoor
/-
  An argument that is a slice of structs of five cells (a slice of numbers, a truth, three numbers), opened. No statement is proved here.
-/
namespace Go.Proofs.YtcoicmbjoaonoaaDoor
set_option linter.unusedVariables false
set_option linter.unusedSimpArgs false
open Go.ChangeShapes Go.WideShapes Go.ChangeAt Go.RowKit Go.Deep
structure TalkV where
  A : Option Addr
  n : Nat
  c : Nat
  ad : Addr
  f : Nat → Int
  r : Bool
  x : Int
  y : Int
  z : Int
instance : Inhabited TalkV := ⟨⟨none, 0, 0, ⟨0, 0, none⟩, fun _ => 0, false, 0, 0, 0⟩⟩
def TalkV.cells (t : TalkV) : Array Value := #[.slice t.A t.n t.c, .bool t.r, .int .i64 t.x, .int .i64 t.y, .int .i64 t.z]
structure TalkV.Ok (t : TalkV) (w : World) : Prop where
  len : t.n ≤ 9223372036854775807
  reads : ReadsA w t.A t.n t.ad t.f
  x : -9223372036854775808 ≤ t.x ∧ t.x ≤ 9223372036854775807
  y : -9223372036854775808 ≤ t.y ∧ t.y ≤ 9223372036854775807
  z : -9223372036854775808 ≤ t.z ∧ t.z ≤ 9223372036854775807
/-- A slice of such structs. -/
structure Talks (w : World) (A : Option Addr) (len b o : Nat) (T : Nat → TalkV) : Prop where
  ptr : 0 < len → A = some ⟨b, o, none⟩
  cell : ∀ i, i < len → ∀ j, j < 5 → w.cell? ⟨b, o + (i * 5 + j), none⟩ = (T i).cells[j]?
  ok : ∀ i, i < len → (T i).Ok w
section
variable {H : Type} {enc : TypeId × Value → H} {P : Program} {w : World} {base : Nat} {spare : Nat → Bool} {held : Bool}
theorem open_nums1 {t e : TypeId} {v : Value} {n : Nat} {x : DataW H × List MemPlace} (ht : P.underlying t = some (.slice e)) (he : P.underlying e = some (.int .i64)) (hc : P.cellsOf e = 1) (h : DataW.trod enc P w base spare held n t [v] = some x) :
    ∃ (A : Option Addr) (len cap : Nat) (ad : Addr) (f : Nat → Int), v = .slice A len cap ∧ len ≤ 9223372036854775807 ∧ ReadsA w A len ad f := by
  rcases open_ints ht he hc h with ⟨h1, _⟩ | ⟨a, len', cap', zs, h1, _, hl, hm, hlen, _, hcell, _⟩
  · injection h1 with h1
    exact ⟨none, 0, 0, ⟨0, 0, none⟩, fun _ => 0, h1, by omega, ⟨fun h => by omega, fun i hi => by omega⟩⟩
  · injection h1 with h1
    unfold maxLen at hm
    refine ⟨some a, len', cap', a, fun i => zs.getD i 0, h1, by omega, ⟨fun _ => rfl, fun i hi => hcell i ?_⟩⟩
    rw [hlen]; split <;> omega
theorem open_slice_fields {t e : TypeId} {fs : Array Field} {fuel : Nat} {cs : List Value} {x : DataW H × List MemPlace} (ht : P.underlying t = some (.slice e)) (he : P.underlying e = some (.struct fs))
    (hone : oneCellFields P fs = true) (hC : P.cellsOf e = fs.size) (h : DataW.trod enc P w base spare held fuel t cs = some x) :
    (cs = [.slice none 0 0]) ∨
    ∃ (a : Addr) (len cap : Nat), cs = [.slice (some a) len cap] ∧ cap ≤ maxLen ∧ len ≤ cap ∧
      ∀ i, i < len → ∃ n : Nat, ∀ (j : Nat) (f : Field), fs[j]? = some f → ∃ (v : Value) (y : DataW H × List MemPlace), w.cell? (a.add (i * fs.size + j)) = some v ∧ DataW.trod enc P w base spare held n f.type [v] = some y := by
  rcases open_slice ht h with h0 | ⟨a, len, cap, m, n, D, Pl, hcs, hb, hl, hm, hmm, hx, hi⟩
  · exact .inl h0.1
  · refine .inr ⟨a, len, cap, hcs, hm, hl, fun i him => ?_⟩
    obtain ⟨cs', hc, ht'⟩ := hi i (by rw [hmm]; split <;> omega)
    rw [hC] at hc
    obtain ⟨ys, n', hn', hy, hlen, hyl, hf⟩ := DataW.trod_struct he ht'
    obtain ⟨_, hcl, hat⟩ := World.cells?_some hc
    refine ⟨n', fun j f hj => ?_⟩
    obtain ⟨ho, hk⟩ := hone_of hone j f hj
    have hjl : j < fs.size := (Array.getElem?_eq_some_iff.1 hj).1
    have hcell := hat j hjl
    have hv : cs'[j]? = some (cs'[j]'(by omega)) := List.getElem?_eq_getElem (by omega)
    have h1 := hf j f hj
    rw [ho, hk] at h1
    have hone' : (cs'.drop j).take 1 = [cs'[j]'(by omega)] := by
      rw [List.drop_eq_getElem_cons (by omega)]
      rfl
    rw [hone'] at h1
    have hys : ys[j]? = some (ys[j]'(by omega)) := List.getElem?_eq_getElem (by omega)
    refine ⟨_, _, ?_, h1.trans hys⟩
    rw [← Go.Deep.add_add, hcell, hv]
theorem open_talks {t e tb ti ts : TypeId} {f0 f1 f2 f3 f4 : Field} {A : Option Addr} {len cap : Nat} {d : DataW H} {p : List MemPlace}
    (ht : P.underlying t = some (.slice e)) (he : P.underlying e = some (.struct #[f0, f1, f2, f3, f4])) (hone : oneCellFields P #[f0, f1, f2, f3, f4] = true) (hC : P.cellsOf e = 5)
    (h0 : f0.type = ts) (h1 : f1.type = tb) (h2 : f2.type = ti) (h3 : f3.type = ti) (h4 : f4.type = ti)
    (hts : P.underlying ts = some (.slice ti)) (hti : P.underlying ti = some (.int .i64)) (hc1 : P.cellsOf ti = 1) (htb : P.underlying tb = some .bool)
    (h : DataW.Trod enc P w base spare held t (.slice A len cap) d p) :
    ∃ (b o : Nat) (T : Nat → TalkV), len ≤ cap ∧ cap ≤ 9223372036854775807 ∧ Talks w A len b o T := by
  obtain ⟨fuel, hf⟩ := h
  have hv : (Value.slice A len cap).cells.toList = [.slice A len cap] := rfl
  rw [hv] at hf
  rcases open_slice_fields ht he hone hC hf with e0 | ⟨a, len', cap', e0, hm, hl, hall⟩
  · injection e0 with e0
    injection e0 with e1 e2 e3
    subst e1 e2 e3
    exact ⟨0, 0, fun _ => default, by omega, by omega, ⟨fun h => by omega, fun i hi => by omega, fun i hi => by omega⟩⟩
  · injection e0 with e0
    injection e0 with e1 e2 e3
    subst e1 e2 e3
    unfold maxLen at hm
    have each : ∀ i, i < len → ∃ T : TalkV, (∀ j, j < 5 → w.cell? (a.add (i * 5 + j)) = T.cells[j]?) ∧ T.Ok w := by
      intro i hi
      obtain ⟨n, hn⟩ := hall i hi
      obtain ⟨v0, y0, c0, r0⟩ := hn 0 f0 rfl
      obtain ⟨v1, y1, c1, r1⟩ := hn 1 f1 rfl
      obtain ⟨v2, y2, c2, r2⟩ := hn 2 f2 rfl
      obtain ⟨v3, y3, c3, r3⟩ := hn 3 f3 rfl
      obtain ⟨v4, y4, c4, r4⟩ := hn 4 f4 rfl
      rw [h0] at r0
      rw [h1] at r1
      rw [h2] at r2
      rw [h3] at r3
      rw [h4] at r4
      obtain ⟨A', n', c', ad', f', rfl, hln, hR⟩ := open_nums1 hts hti hc1 r0
      obtain ⟨b', e1, _⟩ := DataW.trod_bool htb r1
      obtain ⟨x2, e2, _, w2⟩ := DataW.trod_int hti r2
      obtain ⟨x3, e3, _, w3⟩ := DataW.trod_int hti r3
      obtain ⟨x4, e4, _, w4⟩ := DataW.trod_int hti r4
      injection e1 with e1
      injection e2 with e2
      injection e3 with e3
      injection e4 with e4
      subst e1 e2 e3 e4
      refine ⟨⟨A', n', c', ad', f', b', x2, x3, x4⟩, fun j hj => ?_, ⟨hln, hR, bounds_i64 w2, bounds_i64 w3, bounds_i64 w4⟩⟩
      obtain rfl | rfl | rfl | rfl | rfl : j = 0 ∨ j = 1 ∨ j = 2 ∨ j = 3 ∨ j = 4 := by omega
      · exact c0
      · exact c1
      · exact c2
      · exact c3
      · exact c4
    obtain ⟨T, hT⟩ := choose_lt each
    by_cases hz : 0 < len
    · have hs0 := (hT 0 hz).1 0 (by omega)
      have ha : a.add (0 * 5 + 0) = a := by simp [Addr.add]
      rw [ha] at hs0
      have hs := World.cell?_spot (v := .slice (T 0).A (T 0).n (T 0).c) hs0
      obtain ⟨ab, ao, asp⟩ := a
      simp only at hs
      subst hs
      refine ⟨ab, ao, T, by omega, by omega, ⟨fun _ => rfl, fun i hi j hj => ?_, fun i hi => (hT i hi).2⟩⟩
      have := (hT i hi).1 j hj
      rw [Addr.add_mid] at this
      exact this
    · exact ⟨0, 0, T, by omega, by omega, ⟨fun h => absurd h hz, fun i hi => by omega, fun i hi => (hT i hi).2⟩⟩
/-- One of them, read whole. -/
theorem wp_load_talk {P : Program} {w : World} {o' : Oper} {a : Act} {K : Act → World → Prop} {Q : Exit → Act → World → Prop} {A : Option Addr} {len b o : Nat} {T : Nat → TalkV} (R : Talks w A len b o T) (ty : TypeId) (x : Operand) (ho : o'.op = .load ty x) {i : Nat} (hx : a.eval x = .pointer (some ⟨b, o + i * 5, none⟩)) (hi : i < len) (ha : aggOf P ty 5 = true)
    (h : K (a.put o'.dst (.agg (T i).cells)) w) : o'.wp P a w K Q := by
  obtain ⟨d, h1, h2, h3⟩ := aggOf_row ha
  refine wp_load_mid ty x ho b (o + i * 5) hx (T i).cells.toList d (fun j v hv => ?_) h1 h2 h3 h
  have hj : j < 5 := (List.getElem?_eq_some_iff.1 hv).1
  rw [Nat.add_assoc, R.cell i hi j hj]
  rw [Array.getElem?_toList] at hv
  exact hv
theorem TalkV.Ok.below {t : TalkV} {w u : World} (h : t.Ok w) (hb : Below w.heap.size w u) : t.Ok u := ⟨h.len, h.reads.below hb, h.x, h.y, h.z⟩
theorem Talks.below {w u : World} {A : Option Addr} {len b o : Nat} {T : Nat → TalkV} (R : Talks w A len b o T) (hb : Below w.heap.size w u) : Talks u A len b o T := by
  refine ⟨R.ptr, fun i hi j hj => ?_, fun i hi => (R.ok i hi).below hb⟩
  have hc := R.cell i hi j hj
  have hs : ((T i).cells[j]?).isSome = true := by
    obtain rfl | rfl | rfl | rfl | rfl : j = 0 ∨ j = 1 ∨ j = 2 ∨ j = 3 ∨ j = 4 := by omega
    all_goals rfl
  obtain ⟨v, hv⟩ := Option.isSome_iff_exists.1 hs
  rw [hv] at hc ⊢
  rw [← hc]
  exact hb.cell (block_lt_of_cell hc)
end
end Go.Proofs.YtcoicmbjoaonoaaDoor
/-
  spot, same, frame, talks of the statements on the whole, walked. No statement is proved here.
-/
namespace Go.Proofs.YtcoicmbjoaonoaaDoor
set_option linter.unusedVariables false
set_option linter.unusedSimpArgs false
open Go.RowKit
set_option maxRecDepth 100000
/-- spot: the remainder that is not below 0. -/
theorem spotT_any (v n : Int) (w : World) (hn : 0 < n) (hn' : n ≤ 4611686018427387904) :
    Calls Tryd.prog 11 #[.int .i64 v, .int .i64 n] w fun e w' => e = .returned (.int .i64 (v % n)) ∧ w = w' := by
  have h1 := Int.emod_nonneg v (show n ≠ 0 by omega)
  have h2 := Int.emod_lt_of_pos v hn
  have h0 : ¬ n = 0 := by omega
  have hb : -n < v.tmod n ∧ v.tmod n < n := by
    rw [Int.tmod_eq_emod]
    split <;> omega
  by_cases h : v.tmod n < 0
  · have e := tmod_up v n hn h
    go_enter Tryd.func11, Tryd.ntmps11
    go_wp2
    go_ret
    exact ⟨rfl, rfl⟩
  · have e := tmod_still v n hn h
    go_enter Tryd.func11, Tryd.ntmps11
    go_wp2
    go_ret
    exact ⟨rfl, rfl⟩
set_option maxHeartbeats 1600000 in
theorem sameT_yes (P P' : Option Addr) (n cap b o cap' b' o' : Nat) (f : Nat → Int) (w : World) (hn : n ≤ 9223372036854775807) (hR1 : Reads w P n b o f) (hR2 : Reads w P' n b' o' f) :
    Calls Tryd.prog 18 #[.slice P n cap, .slice P' n cap'] w fun e w' => e = .returned (.bool true) ∧ Below w.heap.size w w' := by
  have H := Has.start w
  go_enter Tryd.func18, Tryd.ntmps18
  go_wp2
  go_loopw [5] (fun c wr => ∃ k : Nat, k ≤ n ∧ c = .int .i64 k ∧ Has w wr []) (fun c _ => n - (intOf c).toNat)
  case atStart => exact ⟨0, by omega, rfl, H⟩
  clear H
  case round =>
    obtain ⟨k, hk, rfl, H⟩ := hrel
    by_cases hlt : k < n
    · obtain rfl := hR1.ptr (by omega)
      obtain rfl := hR2.ptr (by omega)
      have s6 : (0 : Int) ≤ (k : Int) := by omega
      have s5 : (k : Int) < (n : Int) := by omega
      go_wp2_with fail
      refine wp_region_text [] (by kernel_rfl) (by kernel_rfl) (by kernel_rfl) ?_; replace H := H.drew; generalize World.drew _ = u at *
      have R1 := Reads.has hR1 H
      have R2 := Reads.has hR2 H
      repeat (first | (refine ones_load_num R1 (o := ⟨_, .load 3 _, _, _, _, _⟩) 3 _ rfl rfl rfl rfl (by kernel_rfl) hlt ?_; simp only [Act.put, List.setIfInBounds_toArray, List.set_cons_zero, List.set_cons_succ]) | (refine ones_load_num R2 (o := ⟨_, .load 3 _, _, _, _, _⟩) 3 _ rfl rfl rfl rfl (by kernel_rfl) hlt ?_; simp only [Act.put, List.setIfInBounds_toArray, List.set_cons_zero, List.set_cons_succ]) | (refine ones_free (v := ?_) rfl rfl ?_ ?_; rotate_left; (intro w'; go_simp; try with_reducible rfl); simp only [Act.put, List.setIfInBounds_toArray, List.set_cons_zero, List.set_cons_succ]))
      refine ones_nil ?_
      go_wp2
      go_roundw
      case rel => exact ⟨k + 1, by omega, by go_num, H⟩
      case measure => simp [intOf]; omega
    · go_wp2
      go_ret
      exact ⟨rfl, H.below⟩
theorem sameT_l {v v' : Value} {n : Nat} {f : Nat → Int} {w : World} (hn : n ≤ 9223372036854775807) (L1 : Lies w v n f) (L2 : Lies w v' n f) : Calls Tryd.prog 18 #[v, v'] w fun e w' => e = .returned (.bool true) ∧ Below w.heap.size w w' := by
  obtain ⟨P, cap, b, o, rfl, R⟩ := L1
  obtain ⟨P', cap', b', o', rfl, R'⟩ := L2
  exact sameT_yes P P' n cap b o cap' b' o' f w hn R R'
def FrameTPost (n : Nat) (f : Nat → Int) (w : World) (e : Ending) (w' : World) : Prop := ∃ g, e = .returned (.slice (some ⟨g, 0, none⟩) 80 80) ∧ Has w w' [(g, 3, row 80 (listF n f))]
set_option maxHeartbeats 1600000 in
theorem frameT_any (P : Option Addr) (n cap : Nat) (ad : Addr) (f : Nat → Int) (w : World) (hn : n ≤ 9223372036854775807) (hR : ReadsA w P n ad f) :
    Calls Tryd.prog 16 #[.slice P n cap] w (FrameTPost n f w) := by
  have H := Has.start w
  go_enter Tryd.func16, Tryd.ntmps16
  go_wp2_with ((refine wpList_on (o := ⟨some 5, .makeSlice _ _ _, _, _, _, _⟩) rfl (fun K hK => ?_)); refine wp_make_has (t_ := 35) (e := 3) H _ _ rfl 80 .i64 .i64 rfl rfl ?_ ?_ ?_ ?_ ?_; (kernel_rfl); (kernel_rfl); (omega); (omega); (clear H; intro u g H; refine hK _ _ ?_; clear hK K; try simp only [Value.cells, List.cons_append, List.nil_append] at H))
  go_loopw [4] (fun c wr => ∃ k : Nat, k ≤ 80 ∧ k ≤ n ∧ c = .int .i64 k ∧ Has w wr [(g, 3, row 80 fun i => if i < k then s16I (f i) else 0)]) (fun c _ => (80 - intOf c).toNat)
  case atStart => exact ⟨0, by omega, by omega, rfl, by
    have e : (fun i : Nat => if i < 0 then s16I (f i) else 0) = fun _ => 0 := by funext i; simp
    rw [e]; exact H⟩
  clear H
  case round =>
    obtain ⟨k, hkm, hkn, rfl, H⟩ := hrel
    have R := ReadsA.has hR H
    by_cases h1 : k < 80
    · by_cases hlt : k < n
      · obtain rfl := R.ptr (by omega)
        have d1 := lt_yes (show (k : Int) < 80 by omega)
        have s8 : (k : Int) < (80 : Int) := by omega
        have HE : Hid ((fun i => if i < k + 1 then s16I (f i) else 0) = fun j => if j = k then s16I (f k) else if j < k then s16I (f j) else 0) := by
          show (fun i => if i < k + 1 then s16I (f i) else 0) = _
          funext i
          by_cases e : i = k
          · subst e; simp
          · have : i < k + 1 ↔ i < k := by omega
            simp [e, this]
        go_wp2_with (first | ((refine wpList_on (o := ⟨_, .load 3 _, _, _, _, _⟩) rfl (fun K hK => ?_)); refine wp_load_numA R 3 _ rfl rfl (by kernel_rfl) hlt ?_; refine hK _ _ ?_; clear hK K) | (go_at_call 11; (with_reducible refine (spotT_any _ _ _ (by omega) (by omega)).mono ?_); rintro e w1 ⟨rfl, rfl⟩) | ((refine wpList_on (o := ⟨_, .store 3 _ _, _, _, _, _⟩) rfl (fun K hK => ?_)); (try simp only [Act.put, List.setIfInBounds_toArray, List.set_cons_zero, List.set_cons_succ]); refine wp_store_row_ (l1 := []) H 3 _ _ rfl rfl rfl (by kernel_rfl) (by omega) ?_; clear H; intro u H; refine hK _ _ ?_; clear hK K; try simp only [Value.cells, List.cons_append, List.nil_append] at H))
        go_roundw
        case rel => exact ⟨k + 1, by omega, by omega, by go_num, by rw [HE.out]; exact H⟩
        case measure => simp [intOf]; omega
      · have d1 := lt_yes (show (k : Int) < 80 by omega)
        have d2 : decide (k < n) = false := by simp; omega
        have HE : Hid (row 80 (fun i => if i < k then s16I (f i) else 0) = row 80 (listF n f)) := row_congr fun i hi => by
          unfold listF
          rw [show k = n by omega]
        go_wp2
        go_ret
        exact ⟨g, rfl, by rw [← HE.out]; exact H⟩
    · have d1 := lt_no (show (80 : Int) ≤ (k : Int) by omega)
      have HE : Hid (row 80 (fun i => if i < k then s16I (f i) else 0) = row 80 (listF n f)) := row_congr fun i hi => by
        unfold listF
        rw [if_pos (by omega), if_pos (by omega)]
      go_wp2
      go_ret
      exact ⟨g, rfl, by rw [← HE.out]; exact H⟩
theorem talks_few (P : Option Addr) (n cap : Nat) (w : World) (hn : ¬ 12 < n) :
    Calls Tryd.prog 19 #[.slice P n cap] w fun e w' => e = .returned (.slice P n cap) ∧ w = w' := by
  have h3 : ¬ (12 : Int) < (n : Int) := by omega
  go_enter Tryd.func19, Tryd.ntmps19
  go_wp2
  go_ret
  exact ⟨rfl, rfl⟩
theorem talks_many (b o : Nat) (n cap : Nat) (w : World) (h : 12 < n) (hn : n ≤ cap) (hc : cap ≤ 9223372036854775807) :
    Calls Tryd.prog 19 #[.slice (some ⟨b, o, none⟩) n cap] w fun e w' => e = .returned (.slice (some ⟨b, o, none⟩) 12 cap) ∧ w = w' := by
  have h2 : 12 ≤ cap := by omega
  have h3 : (12 : Int) < (n : Int) := by omega
  have h4 : (12 : Int) ≤ (cap : Int) := by omega
  go_enter Tryd.func19, Tryd.ntmps19
  go_wp2
  go_ret
  exact ⟨rfl, rfl⟩
theorem talks_any (P : Option Addr) (n cap N : Nat) (w : World) (hp : 0 < n → ∃ b o, P = some ⟨b, o, none⟩) (hN : N = min n 12) (hn : n ≤ cap) (hc : cap ≤ 9223372036854775807) :
    Calls Tryd.prog 19 #[.slice P n cap] w fun e w' => e = .returned (.slice P N cap) ∧ w = w' := by
  by_cases h : 12 < n
  · obtain ⟨b, o, rfl⟩ := hp (by omega)
    obtain rfl : N = 12 := by omega
    exact talks_many b o n cap w h hn hc
  · obtain rfl : N = n := by omega
    exact talks_few P N cap w h
end Go.Proofs.YtcoicmbjoaonoaaDoor
/-
  alive of the statements on the whole, walked. No statement is proved here.
-/
namespace Go.Proofs.YtcoicmbjoaonoaaDoor
set_option linter.unusedVariables false
set_option linter.unusedSimpArgs false
open Go.RowKit
set_option maxRecDepth 100000
theorem plM_seed (f a x : Nat → Int) : plM f a x 100 = f 100 := by
  unfold plM putP
  rw [if_neg (by omega)]
theorem hfM_seed (f u : Nat → Int) : hfM f u 100 = f 100 := by
  unfold hfM putI putX
  rw [if_neg (by omega), if_neg (by omega), if_neg (by omega), if_neg (by omega)]
theorem stM_seed (a f u : Nat → Int) : stM false a f u 100 = f 100 := by
  unfold stM
  rw [if_neg (by decide), plM_seed, hfM_seed]
/-- A refresh leaves the seed that every session begins with. -/
theorem fr_seed {f p : Nat → Int} (h : p 0 = 1) : frM f p 100 = 21845 := by
  have es : frS p = false := by unfold frS; simp [h]
  have e0 : frF0 f p = freshF := by unfold frF0; rw [if_pos h]
  unfold frM putI putR
  rw [if_neg (by omega), if_neg (by omega)]
  unfold frC frB
  rw [es, e0, stM_seed, stM_seed]
  rfl
theorem pk_kind {P : Nat → Nat} {k : Nat} (h : PkE P k) : packI P 0 = (k : Int) := by
  unfold packI
  rw [h.kind]
theorem Decode_pk (f : Nat → Int) (s : Bool) {P : Nat → Nat} {k : Nat} (h : PkE P k) (g : Nat) (w : World) (hG : GoodM f) (hT : Roots w) (hP : Gains w) (hW : Widths w) (hB : Bytes w g 15 (packB P (parP P))) :
    Calls Tryd.prog 17 #[.agg (memA f s), .slice (some ⟨g, 0, none⟩) 15 15] w (DecPost f (packI P) w) :=
  Decode_ok f s P g w hG h.most hT hP hW 15 (Nat.le_refl _) hB
set_option maxHeartbeats 6400000 in
theorem alive_any (w : World) (hT : Roots w) (hP : Gains w) (hW : Widths w) : Calls Tryd.prog 14 #[] w fun e w' => e = .returned (.bool true) ∧ Below w.heap.size w w' := by
  have H := Has.start w
  have cE := Lib.hid (fun (v : Value) (u : World) (L : Lies u v 80 fun _ => 0) (hT : Roots u) (hP : Gains u) (hW : Widths u) => show Calls Tryd.prog 12 #[.agg (encA Z0 Z0 freshF false), v, .bool true] u (EncPost Z0 freshF 1 u) from Encode_zero Z0 freshF false true (fun i _ => Z0_in i) fresh_good L hT hP hW)
  go_enter Tryd.func14, Tryd.ntmps14
  go_wp2_with fail
  refine' cut_ _ (fun hcut => _) _; rotate_left
  · refine wp_region_ordT [] [] (fun w' => Has w w' []) [(0, 1), (0, 2), (0, 8), (1, 2), (1, 8), (2, 8)] [[8, 0, 1, 2, 3, 4, 5, 6, 7, 9, 10, 11, 12], [0, 8, 1, 2, 3, 4, 5, 6, 7, 9, 10, 11, 12], [0, 1, 8, 2, 3, 4, 5, 6, 7, 9, 10, 11, 12], [0, 1, 2, 8, 3, 4, 5, 6, 7, 9, 10, 11, 12], [8, 1, 0, 2, 3, 4, 5, 6, 7, 9, 10, 11, 12], [1, 8, 0, 2, 3, 4, 5, 6, 7, 9, 10, 11, 12], [1, 0, 8, 2, 3, 4, 5, 6, 7, 9, 10, 11, 12], [1, 0, 2, 8, 3, 4, 5, 6, 7, 9, 10, 11, 12]] (by kernel_rfl) (by kernel_rfl) (by kernel_rfl) ?_; replace H := H.drew; generalize World.drew _ = u at *; simp only [List.forall_mem_cons, List.not_mem_nil, false_imp_iff, implies_true, and_true]; (repeat' (with_reducible refine And.intro ?_ ?_))
    all_goals repeat (first | (refine sq_keep (o := ⟨_, .call _, _, _, _, _⟩) rfl rfl rfl (fun K hK => ?_); go_simp; (go_at_call 10; (with_reducible refine (Begin_any _).mono ?_); rintro e u ⟨rfl, hb⟩; replace H := H.callee hb; clear hb); refine hK _ _ (H.sub (by repeat (first | exact List.Sublist.refl _ | exact List.nil_sublist _ | apply List.Sublist.cons_cons | apply List.Sublist.cons | refine List.Sublist.trans ?_ (List.sublist_append_right _ _)))) ?_; clear hK K; try simp only [Act.put, List.setIfInBounds_toArray, List.set_cons_zero, List.set_cons_succ]) | ((refine sq_keep (o := ⟨some 10, .makeSlice _ _ _, _, _, _, _⟩) rfl rfl rfl (fun K hK => ?_); refine wp_make_has (t_ := 35) (e := 3) H _ _ rfl 80 .i64 .i64 rfl rfl ?_ ?_ ?_ ?_ ?_; (kernel_rfl); (kernel_rfl); (omega); (omega); (clear H; intro u gm H; (try simp only [Value.cells, List.cons_append, List.nil_append] at H); refine hK _ _ (H.sub (by repeat (first | exact List.Sublist.refl _ | exact List.nil_sublist _ | apply List.Sublist.cons_cons | apply List.Sublist.cons | refine List.Sublist.trans ?_ (List.sublist_append_right _ _)))) ?_; clear hK K; simp only [Act.put, List.setIfInBounds_toArray, List.set_cons_zero, List.set_cons_succ])); simp only [show Int.toNat 80 = 80 from rfl] at H ⊢) | (refine sq_keep (o := ⟨some 1, .alloc 31, _, _, _, _⟩) rfl rfl rfl (fun K hK => ?_); refine wp_alloc H 31 rfl (z := (.agg (encA Z0 Z0 Z0 false))) (by kernel_rfl) ?_; clear H; intro u g1 H; (try simp only [Value.cells, List.cons_append, List.nil_append] at H); refine hK _ _ (H.sub (by repeat (first | exact List.Sublist.refl _ | exact List.nil_sublist _ | apply List.Sublist.cons_cons | apply List.Sublist.cons | refine List.Sublist.trans ?_ (List.sublist_append_right _ _)))) ?_; clear hK K; simp only [Act.put, List.setIfInBounds_toArray, List.set_cons_zero, List.set_cons_succ]) | (refine sq_keep (o := ⟨_, .call _, _, _, _, _⟩) rfl rfl rfl (fun K hK => ?_); go_simp; (go_at_call 12; (with_reducible refine (cE.out _ _ (H.lies (by repeat (first | exact List.mem_cons_self | apply List.mem_cons_of_mem | apply List.mem_append_right)) (Nat.le_refl _)) (hT.has H) (hP.has H) (hW.has H)).mono ?_); rintro e u ⟨n', P, gp, vo, tl, hn, hp, rfl, RO, hb⟩; obtain ⟨gs, capS, csS, rfl, rfl, hcapS, hszS, hcsS⟩ := RO.some_ (by omega); clear RO hszS hcapS; replace H := H.joinR hb; clear hb; (try simp only [List.cons_append, List.nil_append] at H)); refine hK _ _ (H.sub (by repeat (first | exact List.Sublist.refl _ | exact List.nil_sublist _ | apply List.Sublist.cons_cons | apply List.Sublist.cons | refine List.Sublist.trans ?_ (List.sublist_append_right _ _)))) ?_; clear hK K; try simp only [Act.put, List.setIfInBounds_toArray, List.set_cons_zero, List.set_cons_succ]) | (refine sq_eff (o := ⟨_, .store 31 _ _, _, _, _, _⟩) rfl rfl rfl (fun K hK => ?_); (first | refine wp_store_all (l1 := []) H 31 _ _ rfl rfl rfl (by rw [encA_size]; kernel_rfl) (by rw [encA_size, encA_size]) (encA_one _ _ _ _) ?_ | refine wp_store_all (l1 := [_]) H 31 _ _ rfl rfl rfl (by rw [encA_size]; kernel_rfl) (by rw [encA_size, encA_size]) (encA_one _ _ _ _) ?_); clear H; intro u H; (try simp only [List.cons_append, List.nil_append] at H); refine hK _ _ ?_; clear hK K; simp only [Act.put, List.setIfInBounds_toArray, List.set_cons_zero, List.set_cons_succ]) | (refine sq_free (o := ⟨_, _, _, _, _, _⟩) (v := ?_) rfl rfl rfl ?_ ?_; rotate_left; (intro w'; go_simp; try with_reducible rfl); simp only [Act.put, List.setIfInBounds_toArray, List.set_cons_zero, List.set_cons_succ]))
    all_goals refine sq_nil ?_
    all_goals replace H := H.sub (bs' := [(g1, 31, encA Z0 n' (frM freshF (packI P)) (frS (packI P))), (gp, 5, rowU 15 (packB P (parP P))), (gs, 3, csS)]) (by repeat (first | exact List.Sublist.refl _ | exact List.nil_sublist _ | apply List.Sublist.cons_cons | apply List.Sublist.cons))
    all_goals clear hn
    · revert hp hcsS H
      revert g1 gm n' P gp gs capS csS u
      exact hcut.out
    all_goals exact hcut.out _ _ _ _ _ _ _ _ _ hp hcsS H
  clear H cE
  intro g1 gm n' P gp gs capS csS u hp hcsS H
  have cD := Lib.hid (fun (u : World) (hT : Roots u) (hP : Gains u) (hW : Widths u) (hB : Bytes u gp 15 (packB P (parP P))) => Decode_pk freshF false hp gp u fresh_good hT hP hW hB)
  have h100 : frM freshF (packI P) 100 = 21845 := fr_seed (pk_kind hp)
  clear hp
  unfold DecPost at cD
  have heq := fun w => mem_eql (frM freshF (packI P)) (frS (packI P)) w
  generalize frM freshF (packI P) = m at *
  generalize frS (packI P) = t at *
  generalize frO freshF (packI P) = x at *
  generalize packB P (parP P) = b at *
  go_wp2_with (first | (go_at_call 29; (with_reducible refine (Fresh_any _).mono ?_); rintro e w1 ⟨rfl, hb⟩; replace H := H.callee hb; clear hb) | (go_at_call 17; (with_reducible refine (cD.out _ (hT.has H) (hP.has H) (hW.has H) (Bytes.ofRow H (by repeat (first | exact List.mem_cons_self | apply List.mem_cons_of_mem | apply List.mem_append_right)) (Nat.le_refl 15))).mono ?_); rintro e w1 ⟨vo, tl, rfl, RO, hb⟩; obtain ⟨gx, capx, csx, rfl, rfl, hcapx, hszx, hcsx⟩ := RO.some_ (by omega); clear RO hszx; replace H := H.join hb; clear hb; (try simp only [List.cons_append, List.nil_append] at H)) | (refine wpList_on (o := ⟨some 5, .alloc 29, _, _, _, _⟩) rfl (fun K hK => ?_); refine wp_alloc H 29 rfl (z := (.agg (memA (fun _ => 0) false))) (by kernel_rfl) ?_; clear H; intro u g5 H; refine hK _ _ ?_; clear hK K; try simp only [Value.cells, List.cons_append, List.nil_append] at H) | ((refine wpList_on (o := ⟨_, .store 29 _ _, _, _, _, _⟩) rfl (fun K hK => ?_)); (try simp only [Act.put, List.setIfInBounds_toArray, List.set_cons_zero, List.set_cons_succ]); refine wp_store_all (l1 := []) H 29 _ _ rfl rfl rfl (by rw [memA_size]; kernel_rfl) (by rw [memA_size, memA_size]) (memA_one _ _) ?_; clear H; intro u H; refine hK _ _ ?_; clear hK K; try simp only [Value.cells, List.cons_append, List.nil_append] at H) | (go_at_call 18; (with_reducible refine (sameT_l (by omega) (lies_n H (cs := csS) (by repeat (first | exact List.mem_cons_self | apply List.mem_cons_of_mem | apply List.mem_append_right)) hcsS) (lies_n H (cs := csx) (by repeat (first | exact List.mem_cons_self | apply List.mem_cons_of_mem | apply List.mem_append_right)) hcsx)).mono ?_); rintro e w1 ⟨rfl, hb⟩; replace H := H.callee hb; clear hb) | ((refine wpList_on (o := ⟨_, .load 29 _, _, _, _, _⟩) rfl (fun K hK => ?_)); (try simp only [Act.put, List.setIfInBounds_toArray, List.set_cons_zero, List.set_cons_succ]); refine wp_load_all H 29 _ rfl rfl (by repeat (first | exact List.mem_cons_self | apply List.mem_cons_of_mem | apply List.mem_append_right)) (by rw [memA_size]; kernel_rfl) ?_; refine hK _ _ ?_; clear hK K) | ((refine wpList_on (o := ⟨_, .load 29 _, _, _, _, _⟩) rfl (fun K hK => ?_)); (try simp only [Act.put, List.setIfInBounds_toArray, List.set_cons_zero, List.set_cons_succ]); refine wp_load_part (n := 102) H 29 _ rfl rfl (by repeat (first | exact List.mem_cons_self | apply List.mem_cons_of_mem | apply List.mem_append_right)) (by kernel_rfl) (by rw [encA_size]; omega) (encA_mem _ _ _ _) ?_; refine hK _ _ ?_; clear hK K) | ((refine wpList_on (o := ⟨_, .load 3 _, _, _, _, _⟩) rfl (fun K hK => ?_)); (try simp only [Act.put, List.setIfInBounds_toArray, List.set_cons_zero, List.set_cons_succ]); refine wp_load_one H 3 _ rfl rfl (by repeat (first | exact List.mem_cons_self | apply List.mem_cons_of_mem | apply List.mem_append_right)) (by kernel_rfl) (memA_get _ _ (by omega)) ?_; refine hK _ _ ?_; clear hK K))
  go_ret
  exact ⟨rfl, H.below⟩
end Go.Proofs.YtcoicmbjoaonoaaDoor
