/-
  Several texts of this claim, one behind the other: RegTwo, Sat, SynthLaw, Past, Shift, Fade. No statement is proved here.
-/
import Derived.Test.YtcoicmbjoaonoaaDoorZab
import Derived.Test.YtcoicmbjoaonoaaDoorZaa
import Derived.Test.YtcoicmbjoaonoaaDoorZad
import Derived.Test.YtcoicmbjoaonoaaDoorZac
/-
  A region that draws its order, walked in several orders: only the orders that can be are asked for. No statement is proved here.
-/
namespace Go.Proofs.YtcoicmbjoaonoaaDoor
set_option linter.unusedVariables false
set_option linter.unusedSimpArgs false
open Go.RowKit
set_option maxRecDepth 100000
section
variable {P : Program} {ops : Array Oper} {Q : Exit → Act → World → Prop} {S : World → Prop} {kind : Nat → Nat}
theorem dep_first : ∀ (π : List Nat) (listed : Array Bool), Lin ops π listed → ∀ y ∈ π, ∀ o, ops[y]? = some o → ∀ e ∈ o.after, Region.binds .any e = true →
    listed.getD e.on false = true ∨ (e.on ∈ π ∧ π.idxOf e.on < π.idxOf y)
  | [], _, _, y, hy, _, _, _, _, _ => by cases hy
  | i :: π, listed, h, y, hy, o, ho, e, he, hb => by
    by_cases hyi : y = i
    · subst hyi
      obtain ⟨_, o', ho', hall⟩ := mem_ready.1 h.1
      obtain rfl := Option.some.inj (ho.symm.trans ho')
      exact .inl (hall e he hb)
    · have hy' : y ∈ π := (List.mem_cons.1 hy).resolve_left hyi
      by_cases hei : e.on = i
      · rw [hei]
        exact .inr ⟨by simp, idxOf_head_lt hyi⟩
      · rcases dep_first π _ h.2 y hy' o ho e he hb with h1 | ⟨h1, h2⟩
        · left; rwa [getD_set_ne false (fun e0 => hei e0.symm)] at h1
        · right
          refine ⟨List.mem_cons_of_mem _ h1, ?_⟩
          rw [List.idxOf_cons, List.idxOf_cons]
          simp only [beq_iff_eq, show ¬ i = e.on from fun e0 => hei e0.symm, show ¬ i = y from fun e0 => hyi e0.symm, cond_false, if_false, Bool.cond_eq_ite]
          omega
theorem hangs_first {π : List Nat} (h : Lin ops π (Array.replicate ops.size false)) : ∀ (n y x : Nat), y ∈ π → hangs ops n y x = true → x ∈ π ∧ π.idxOf x < π.idxOf y
  | 0, _, _, _, hh => by simp [hangs] at hh
  | n + 1, y, x, hy, hh => by
    unfold hangs at hh
    cases ho : ops[y]? with
    | none => simp [ho] at hh
    | some o =>
      simp only [ho, Array.any_eq_true, Bool.and_eq_true, Bool.or_eq_true, beq_iff_eq] at hh
      obtain ⟨k, hk, hb, hor⟩ := hh
      have hd := dep_first π _ h y hy o ho o.after[k] (by simp) hb
      have hr : (Array.replicate ops.size false).getD o.after[k].on false = false := by
        rw [Array.getD_eq_getD_getElem?]
        by_cases hlt : o.after[k].on < ops.size <;> simp [hlt]
      rw [hr] at hd
      rcases hd with hd | ⟨h1, h2⟩
      · cases hd
      · rcases hor with he | he
        · rw [← he]; exact ⟨h1, h2⟩
        · obtain ⟨h3, h4⟩ := hangs_first h n _ _ h1 he
          exact ⟨h3, by omega⟩
/-- Can an order tell the pairs apart so? -/
def bitsOk (ms : List Nat) (acc : List ((Nat × Nat) × Bool)) : Bool :=
  acc.all fun a => (!depOf ms a.1.2 a.1.1 || a.2) && (!depOf ms a.1.1 a.1.2 || !a.2) && acc.all fun b => b.1.1 != a.1.2 || acc.all fun c => c.1 != (a.1.1, b.1.2) || (!(a.2 && b.2 && !c.2) && !(!a.2 && !b.2 && c.2))
def coversT (ms : List Nat) : List (Nat × Nat) → List ((Nat × Nat) × Bool) → List (List Nat) → Bool
  | [], acc, ls => !ls.isEmpty || !bitsOk ms acc
  | b :: B, acc, ls => coversT ms B ((b, true) :: acc) (ls.filter (ahead · b)) && coversT ms B ((b, false) :: acc) (ls.filter (!ahead · b))
/-- As an order tells pairs apart. -/
structure Told (ops : Array Oper) (p : Nat × Nat → Bool) : Prop where
  yes : ∀ x y, y < ops.size → (∃ n, hangs ops n y x = true) → p (x, y) = true
  no : ∀ x y, x < ops.size → (∃ n, hangs ops n x y = true) → p (x, y) = false
  up : ∀ x y z, p (x, y) = true → p (y, z) = true → p (x, z) = true
  down : ∀ x y z, p (x, y) = false → p (y, z) = false → p (x, z) = false
theorem bitsOk_told {p : Nat × Nat → Bool} {ms : List Nat} (hms : Masks ops ms) (T : Told ops p) {acc : List ((Nat × Nat) × Bool)} (h : ∀ e ∈ acc, e.2 = p e.1 ∧ e.1.1 < ops.size ∧ e.1.2 < ops.size) : bitsOk ms acc = true := by
  unfold bitsOk
  rw [List.all_eq_true]
  intro a ha
  obtain ⟨h1, h2, h3⟩ := h a ha
  obtain ⟨⟨x, y⟩, t⟩ := a
  simp only at h1 h2 h3 ⊢
  rw [Bool.and_eq_true, Bool.and_eq_true]
  refine ⟨⟨?_, ?_⟩, ?_⟩
  · by_cases hh : depOf ms y x = true
    · have := T.yes x y h3 (hms _ _ hh)
      simp [h1, this]
    · simp at hh; simp [hh]
  · by_cases hh : depOf ms x y = true
    · have := T.no x y h2 (hms _ _ hh)
      simp [h1, this]
    · simp at hh; simp [hh]
  · rw [List.all_eq_true]
    intro b hb
    obtain ⟨k1, _, _⟩ := h b hb
    obtain ⟨⟨y', z⟩, t'⟩ := b
    simp only at k1 ⊢
    by_cases hy : y' = y
    · subst hy
      rw [Bool.or_eq_true]; right
      rw [List.all_eq_true]
      intro c hc
      obtain ⟨m1, _, _⟩ := h c hc
      obtain ⟨⟨x', z'⟩, t''⟩ := c
      simp only at m1 ⊢
      by_cases hxz : (x', z') = (x, z)
      · rw [hxz] at m1
        have hu := T.up x y' z
        have hd := T.down x y' z
        rw [h1, k1, m1]
        revert hu hd
        cases p (x, y') <;> cases p (y', z) <;> cases p (x, z) <;> simp
      · simp [hxz]
    · simp [hy]
theorem coversT_spec {p : Nat × Nat → Bool} {ms : List Nat} (hms : Masks ops ms) (T : Told ops p) : ∀ (B : List (Nat × Nat)) (acc : List ((Nat × Nat) × Bool)) (ls : List (List Nat)), (∀ b ∈ B, b.1 < ops.size ∧ b.2 < ops.size) →
    (∀ e ∈ acc, e.2 = p e.1 ∧ e.1.1 < ops.size ∧ e.1.2 < ops.size) → coversT ms B acc ls = true → ∃ l ∈ ls, ∀ b ∈ B, ahead l b = p b
  | [], acc, ls, _, hacc, h => by
    cases ls with
    | nil =>
      rw [coversT, bitsOk_told hms T hacc] at h
      simp at h
    | cons l ls => exact ⟨l, by simp, by simp⟩
  | b :: B, acc, ls, hB, hacc, h => by
    simp only [coversT, Bool.and_eq_true] at h
    have hb' := hB b (by simp)
    cases hb : p b
    · obtain ⟨l, hl, hB'⟩ := coversT_spec hms T B _ _ (fun c hc => hB c (by simp [hc])) (fun e he => by
        rcases List.mem_cons.1 he with rfl | he
        · exact ⟨hb.symm, hb'.1, hb'.2⟩
        · exact hacc e he) h.2
      have := List.mem_filter.1 hl
      exact ⟨l, this.1, fun c hc => by
        rcases List.mem_cons.1 hc with rfl | hc
        · rw [hb]; simpa using this.2
        · exact hB' c hc⟩
    · obtain ⟨l, hl, hB'⟩ := coversT_spec hms T B _ _ (fun c hc => hB c (by simp [hc])) (fun e he => by
        rcases List.mem_cons.1 he with rfl | he
        · exact ⟨hb.symm, hb'.1, hb'.2⟩
        · exact hacc e he) h.1
      have := List.mem_filter.1 hl
      exact ⟨l, this.1, fun c hc => by
        rcases List.mem_cons.1 hc with rfl | hc
        · rw [hb]; simpa using this.2
        · exact hB' c hc⟩
def listOk (ops : Array Oper) (ms : List Nat) (kind : Nat → Nat) (B : List (Nat × Nat)) (l : List Nat) : Bool :=
  l.length == ops.size && (List.range ops.size).all (l.contains ·) && l.all (· < ops.size) && depsOk ops l && orderOkB ops ms kind B l
def ordersOkT (ops : Array Oper) (kind : Nat → Nat) (B : List (Nat × Nat)) (ls : List (List Nat)) : Bool :=
  !ls.isEmpty && B.all (fun b => decide (b.1 < ops.size) && decide (b.2 < ops.size)) && withMasks ops.toList [] fun ms => coversT ms B [] ls && ls.all (listOk ops ms kind B)
/-- THE LAW. -/
theorem wp_region_ordersT {id : Nat} {a : Act} {w : World} (kind : Nat → Nat) (S : World → Prop) (B : List (Nat × Nat)) (ls : List (List Nat)) (hm : P.follows .mixedOrders = true) (hs : Region.noSelect ops = true) (hok : ordersOkT ops kind B ls = true)
    (h : ∀ l ∈ ls, Seq_ P ops S kind Q l a w.drew) : (Code.region id ops true).wp P Q a w := by
  refine wp_region_draw fun t => ?_
  simp only [Region.schedule, hm, Bool.true_or, if_true]
  simp only [ordersOkT, Bool.and_eq_true, List.all_eq_true, decide_eq_true_eq] at hok
  obtain ⟨⟨hne, hsz⟩, hmk⟩ := hok
  obtain ⟨ms, hms, hmk⟩ := withMasks_spec hmk
  simp only [Bool.and_eq_true, List.all_eq_true] at hmk
  obtain ⟨hcov, hall⟩ := hmk
  have one : ∀ l ∈ ls, Lin ops (Region.linearise .any ops t) (Array.replicate ops.size false) ∧ (∀ j, j < ops.size → ((Array.replicate ops.size false).getD j true = false ↔ j ∈ l)) ∧ (∀ j ∈ l, j < ops.size) ∧ orderOkB ops ms kind B l = true ∧ ∀ j ∈ l, j ∈ Region.linearise .any ops t := fun l hl => by
    have hl' := hall l hl
    simp only [listOk, Bool.and_eq_true, List.all_eq_true] at hl'
    obtain ⟨⟨⟨⟨hlen, hin⟩, hlt⟩, hdep⟩, hord⟩ := hl'
    have hlt' : ∀ j ∈ l, j < ops.size := fun j hj => by simpa using hlt j hj
    have hmem : ∀ j, j < ops.size → ((Array.replicate ops.size false).getD j true = false ↔ j ∈ l) := fun j hj => by
      simp [hj]
      have := hin j (by simp [hj])
      simpa using this
    have hlin : Lin ops (Region.linearise .any ops t) (Array.replicate ops.size false) := lin_linearise ops.size t _ l (by simpa using hlen) (by simp) hmem hlt' hdep
    exact ⟨hlin, hmem, hlt', hord, Lin.all_ _ _ l hlin (by simp) hmem hlt' hdep⟩
  obtain ⟨l0, hl0⟩ : ∃ l, l ∈ ls := by
    cases ls with
    | nil => simp at hne
    | cons l _ => exact ⟨l, by simp⟩
  obtain ⟨hlin, hmem0, _, _, hπ0⟩ := one l0 hl0
  have hinπ : ∀ j, j < ops.size → j ∈ Region.linearise .any ops t := fun j hj => hπ0 j ((hmem0 j hj).1 (by simp [hj]))
  have T : Told ops (fun b => ahead (Region.linearise .any ops t) b) := by
    refine ⟨fun x y hy hh => ?_, fun x y hx hh => ?_, fun x y z h1 h2 => ?_, fun x y z h1 h2 => ?_⟩
    · obtain ⟨nh, hh⟩ := hh
      have := (hangs_first hlin nh y x (hinπ y hy) hh).2
      simpa [ahead] using this
    · obtain ⟨nh, hh⟩ := hh
      have := (hangs_first hlin nh x y (hinπ x hx) hh).2
      simp [ahead]; omega
    · simp only [ahead, decide_eq_true_eq] at *; omega
    · simp only [ahead, decide_eq_false_iff_not] at *; omega
  obtain ⟨l, hl, hB⟩ := coversT_spec hms T B [] ls hsz (by simp) hcov
  obtain ⟨_, hmem, hlt', hord, hin⟩ := one l hl
  refine ops_of_seq hms (Region.noSelect_spec hs) (B := B) _ _ l a _ hlin (by simp) hmem hlt' hord (fun z o hz => ?_) (fun b hb _ _ => hB b hb) hin (fun j hj => ?_) (h l hl)
  · exfalso
    rw [Array.getD_eq_getD_getElem?] at hz
    by_cases hzl : z < ops.size <;> simp [hzl] at hz
  · exact (hmem j (Lin.small _ _ hlin j hj)).1 (Lin.unlisted _ _ hlin j hj)
end
theorem wp_region_ordT {P : Program} {ops : Array Oper} {Q : Exit → Act → World → Prop} {id : Nat} {a : Act} {w : World} (quiet : List Nat) (over : List (Nat × Nat)) (S : World → Prop) (B : List (Nat × Nat)) (ls : List (List Nat)) (hm : P.follows .mixedOrders = true) (hs : Region.noSelect ops = true)
    (hok : ordersOkT ops (kindB quiet over ops) B ls = true) (h : ∀ l ∈ ls, Seq_ P ops S (kindB quiet over ops) Q l a w.drew) : (Code.region id ops true).wp P Q a w :=
  wp_region_ordersT _ S B ls hm hs hok h
end Go.Proofs.YtcoicmbjoaonoaaDoor
/-
  basic: numbers that stop at their ends. Contracts of stop, Sat16, Sat32, in16, in32. No statement is proved here.
-/
namespace Go.Proofs.YtcoicmbjoaonoaaDoor
set_option linter.unusedVariables false
set_option linter.unusedSimpArgs false
open Go.RowKit
set_option maxRecDepth 100000

/-- A number between two ends; was it stopped? -/
def clamp (lo hi x : Int) : Int := if x < lo then lo else if hi < x then hi else x
def over (lo hi x : Int) : Bool := decide (x < lo) || decide (hi < x)
theorem clamp_lo {lo hi x : Int} (h : x < lo) : clamp lo hi x = lo := by simp [clamp, h]
theorem clamp_hi {lo hi x : Int} (h0 : ¬ x < lo) (h : hi < x) : clamp lo hi x = hi := by simp [clamp, h0, h]
theorem clamp_in {lo hi x : Int} (h0 : ¬ x < lo) (h : ¬ hi < x) : clamp lo hi x = x := by simp [clamp, h0, h]
theorem over_lo {lo hi x : Int} (h : x < lo) : over lo hi x = true := by simp [over, h]
theorem over_hi {lo hi x : Int} (h : hi < x) : over lo hi x = true := by simp [over, h]
theorem over_in {lo hi x : Int} (h0 : ¬ x < lo) (h : ¬ hi < x) : over lo hi x = false := by simp [over, h0, h]
def sat16 (x : Int) : Int := clamp (-32768) 32767 x
def over16 (x : Int) : Bool := over (-32768) 32767 x
def sat32 (x : Int) : Int := clamp (-2147483648) 2147483647 x
def over32 (x : Int) : Bool := over (-2147483648) 2147483647 x
theorem sat16_bd (x : Int) : -32768 ≤ sat16 x ∧ sat16 x ≤ 32767 := by unfold sat16 clamp; split <;> (try split) <;> omega
theorem sat32_bd (x : Int) : -2147483648 ≤ sat32 x ∧ sat32 x ≤ 2147483647 := by unfold sat32 clamp; split <;> (try split) <;> omega
theorem sat16_in {x : Int} (h : -32768 ≤ x ∧ x ≤ 32767) : sat16 x = x := clamp_in (by omega) (by omega)
theorem sat32_in {x : Int} (h : -2147483648 ≤ x ∧ x ≤ 2147483647) : sat32 x = x := clamp_in (by omega) (by omega)
theorem over16_in {x : Int} (h : -32768 ≤ x ∧ x ≤ 32767) : over16 x = false := over_in (by omega) (by omega)
theorem over32_in {x : Int} (h : -2147483648 ≤ x ∧ x ≤ 2147483647) : over32 x = false := over_in (by omega) (by omega)

theorem stop_any (x lo hi : Int) (w : World) : Calls Tryd.prog 103 #[.int .i64 x, .int .i64 lo, .int .i64 hi] w fun e w' => e = .returned (.tuple #[.int .i64 (clamp lo hi x), .bool (over lo hi x)]) ∧ w = w' := by
  by_cases h0 : x < lo
  · rw [clamp_lo h0, over_lo h0]
    have d := lt_yes h0
    go_enter Tryd.func103, Tryd.ntmps103
    go_wp2
    go_ret2
    exact ⟨rfl, rfl⟩
  · by_cases h1 : hi < x
    · rw [clamp_hi h0 h1, over_hi h1]
      have d := lt_no (show lo ≤ x by omega)
      have d2 := lt_yes h1
      go_enter Tryd.func103, Tryd.ntmps103
      go_wp2
      go_ret2
      exact ⟨rfl, rfl⟩
    · rw [clamp_in h0 h1, over_in h0 h1]
      have d := lt_no (show lo ≤ x by omega)
      have d2 := lt_no (show x ≤ hi by omega)
      go_enter Tryd.func103, Tryd.ntmps103
      go_wp2
      go_ret2
      exact ⟨rfl, rfl⟩
theorem Sat16_any (x : Int) (w : World) : Calls Tryd.prog 87 #[.int .i64 x] w fun e w' => e = .returned (.tuple #[.int .i64 (sat16 x), .bool (over16 x)]) ∧ w = w' := by
  go_enter Tryd.func87, Tryd.ntmps87
  go_wp2_with (go_at_call 103; (with_reducible refine (stop_any _ _ _ _).mono ?_); rintro e w1 ⟨rfl, rfl⟩)
  go_ret2
  exact ⟨rfl, rfl⟩
end Go.Proofs.YtcoicmbjoaonoaaDoor
/-
  The filter that makes speech and the one that undoes it, folding: plain Lean, no program. No statement is proved here.
-/
namespace Go.Proofs.YtcoicmbjoaonoaaDoor
set_option linter.unusedVariables false
set_option linter.unusedSimpArgs false
/-- The sum of the first n. -/
def sumTo : Nat → (Nat → Int) → Int
  | 0, _ => 0
  | n + 1, f => sumTo n f + f n
theorem sumTo_congr {f g : Nat → Int} : ∀ n, (∀ i, i < n → f i = g i) → sumTo n f = sumTo n g
  | 0, _ => rfl
  | n + 1, h => by rw [sumTo, sumTo, sumTo_congr n (fun i hi => h i (by omega)), h n (by omega)]
theorem sumTo_front (f : Nat → Int) : ∀ n, sumTo (n + 1) f = f 0 + sumTo n (fun i => f (i + 1))
  | 0 => by simp [sumTo]
  | n + 1 => by rw [sumTo, sumTo_front f n, sumTo, Int.add_assoc]
theorem sumTo_rev (f : Nat → Int) : ∀ n, sumTo n f = sumTo n (fun i => f (n - 1 - i))
  | 0 => rfl
  | n + 1 => by
    rw [sumTo_front (fun i => f (n + 1 - 1 - i)) n, sumTo, sumTo_rev f n, Int.add_comm]
    simp only [Nat.add_sub_cancel, Nat.sub_zero]
    congr 1
    exact sumTo_congr n fun i hi => by congr 1; omega
theorem sumTo_bd {f : Nat → Int} {B : Int} : ∀ n : Nat, (∀ i, i < n → -B ≤ f i ∧ f i ≤ B) → -(n * B) ≤ sumTo n f ∧ sumTo n f ≤ n * B
  | 0, _ => by simp [sumTo]
  | n + 1, h => by
    have ih := sumTo_bd n (fun i hi => h i (by omega))
    have h1 := h n (by omega)
    rw [sumTo]
    have : ((n + 1 : Nat) : Int) * B = n * B + B := by rw [Int.natCast_add, Int.add_mul]; simp
    omega
theorem sumTo_zero {f : Nat → Int} : ∀ n : Nat, (∀ i, i < n → f i = 0) → sumTo n f = 0
  | 0, _ => rfl
  | n + 1, h => by rw [sumTo, sumTo_zero n (fun i hi => h i (by omega)), h n (by omega)]; rfl
theorem sumTo_nonneg {f : Nat → Int} : ∀ n : Nat, (∀ i, i < n → 0 ≤ f i) → 0 ≤ sumTo n f
  | 0, _ => Int.le_refl _
  | n + 1, h => by
    have := sumTo_nonneg n (fun i hi => h i (by omega))
    have := h n (by omega)
    rw [sumTo]; omega

/-- What a predictor takes away of the next sample. -/
def guessS (a p : Nat → Int) : Int := (2048 + sumTo 8 (fun i => a (i + 1) * p i)) / 4096
def pushS (p : Nat → Int) (x : Int) : Nat → Int := fun i => if i = 0 then x else p (i - 1)
/-- The past behind k samples of Make. -/
def mk (a f p : Nat → Int) : Nat → Nat → Int
  | 0 => p
  | k + 1 => pushS (mk a f p k) (sat16 (f k - guessS a (mk a f p k)))
/-- The samples that Make makes. -/
def mkOut (a f p : Nat → Int) (k : Nat) : Int := sat16 (f k - guessS a (mk a f p k))
/-- The past behind k samples of Undo. -/
def ud (f p : Nat → Int) : Nat → Nat → Int
  | 0 => p
  | k + 1 => pushS (ud f p k) (f k)
def udOut (a f p : Nat → Int) (k : Nat) : Int := sat16 (f k + guessS a (ud f p k))
theorem mkOut_bd (a f p : Nat → Int) (k : Nat) : -32768 ≤ mkOut a f p k ∧ mkOut a f p k ≤ 32767 := sat16_bd _
theorem udOut_bd (a f p : Nat → Int) (k : Nat) : -32768 ≤ udOut a f p k ∧ udOut a f p k ≤ 32767 := sat16_bd _
def In16 (x : Int) : Prop := -32768 ≤ x ∧ x ≤ 32767
theorem pushS_bd {p : Nat → Int} {x : Int} (hp : ∀ i, i < 8 → In16 (p i)) (hx : In16 x) : ∀ i, i < 8 → In16 (pushS p x i) := fun i hi => by
  unfold pushS
  split
  · exact hx
  · exact hp _ (by omega)
theorem mk_bd (a f : Nat → Int) {p : Nat → Int} (hp : ∀ i, i < 8 → In16 (p i)) : ∀ k i, i < 8 → In16 (mk a f p k i)
  | 0 => hp
  | k + 1 => pushS_bd (mk_bd a f hp k) (sat16_bd _)
theorem ud_bd {f p : Nat → Int} (hp : ∀ i, i < 8 → In16 (p i)) {n : Nat} (hf : ∀ i, i < n → In16 (f i)) : ∀ k, k ≤ n → ∀ i, i < 8 → In16 (ud f p k i)
  | 0, _ => hp
  | k + 1, h => pushS_bd (ud_bd hp hf k (by omega)) (hf k (by omega))
/-- Undo of what Make made has the same past. -/
theorem ud_mk (a f p : Nat → Int) : ∀ k, ud (mkOut a f p) p k = mk a f p k
  | 0 => rfl
  | k + 1 => by rw [ud, ud_mk a f p k, mk]; rfl
theorem mk_ud (a f p : Nat → Int) (n : Nat) (h : ∀ i, i < n → mkOut a (udOut a f p) p i = f i) : ∀ k, k ≤ n → mk a (udOut a f p) p k = ud f p k
  | 0, _ => rfl
  | k + 1, hk => by
    have e := mk_ud a f p n h k (by omega)
    have e2 := h k (by omega)
    unfold mkOut at e2
    rw [mk, ud, e2, e]
def Free (x : Int) : Prop := x ≠ 32767 ∧ x ≠ -32768
theorem sat_free {x : Int} (h : Free (sat16 x)) : sat16 x = x := by
  by_cases h1 : x < -32768
  · exact absurd (clamp_lo h1) h.2
  · by_cases h2 : 32767 < x
    · exact absurd (clamp_hi h1 h2) h.1
    · exact clamp_in h1 h2
/-- Undo undoes Make where nothing came to an end. -/
theorem undo_make (a f p : Nat → Int) {n : Nat} (hf : ∀ i, i < n → In16 (f i)) (h : ∀ i, i < n → Free (mkOut a f p i)) : ∀ i, i < n → udOut a (mkOut a f p) p i = f i := fun i hi => by
  unfold udOut
  rw [ud_mk]
  have e := sat_free (h i hi)
  show sat16 (mkOut a f p i + _) = f i
  unfold mkOut
  rw [e]
  have : f i - guessS a (mk a f p i) + guessS a (mk a f p i) = f i := by omega
  rw [this]
  exact sat16_in (hf i hi)
/-- Make undoes Undo where nothing came to an end. -/
theorem make_undo (a f p : Nat → Int) {n : Nat} (hf : ∀ i, i < n → In16 (f i)) (h : ∀ i, i < n → Free (udOut a f p i)) : ∀ i, i < n → mkOut a (udOut a f p) p i = f i := by
  intro i
  induction i using Nat.strongRecOn with
  | _ i ih =>
    intro hi
    have e := mk_ud a f p i (fun j hj => ih j hj (by omega)) i (Nat.le_refl _)
    unfold mkOut
    rw [e]
    have e2 := sat_free (h i hi)
    unfold udOut
    rw [e2]
    have : f i + guessS a (ud f p i) - guessS a (ud f p i) = f i := by omega
    rw [this]
    exact sat16_in (hf i hi)
/-- Speaking goes on by the past. -/
theorem mk_cut (a f p : Nat → Int) (m : Nat) : ∀ k, mk a f p (m + k) = mk a (fun i => f (m + i)) (mk a f p m) k
  | 0 => rfl
  | k + 1 => by rw [← Nat.add_assoc, mk, mk_cut a f p m k, mk]
theorem mkOut_cut (a f p : Nat → Int) (m k : Nat) : mkOut a f p (m + k) = mkOut a (fun i => f (m + i)) (mk a f p m) k := by
  unfold mkOut; rw [mk_cut]
theorem mk_congr {a f g p : Nat → Int} : ∀ n, (∀ i, i < n → f i = g i) → mk a f p n = mk a g p n
  | 0, _ => rfl
  | n + 1, h => by rw [mk, mk, mk_congr n (fun i hi => h i (by omega)), h n (by omega)]
theorem mkOut_congr {a f g p : Nat → Int} {n : Nat} (h : ∀ i, i < n + 1 → f i = g i) : mkOut a f p n = mkOut a g p n := by
  unfold mkOut; rw [mk_congr n (fun i hi => h i (by omega)), h n (by omega)]
/-- At rest. -/
theorem guess_rest (a p : Nat → Int) (h : ∀ i, i < 8 → p i = 0) : guessS a p = 0 := by
  unfold guessS
  rw [sumTo_zero 8 (fun i hi => by rw [h i hi]; simp)]
  rfl
theorem mk_rest (a f p : Nat → Int) (hp : ∀ i, i < 8 → p i = 0) (n : Nat) (hf : ∀ i, i < n → f i = 0) : ∀ k, k ≤ n → ∀ i, i < 8 → mk a f p k i = 0
  | 0, _ => hp
  | k + 1, hk => fun i hi => by
    have ih := mk_rest a f p hp n hf k (by omega)
    rw [mk]
    unfold pushS
    split
    · rw [guess_rest a _ ih, hf k (by omega)]; rfl
    · exact ih _ (by omega)
theorem mkOut_rest (a f p : Nat → Int) (hp : ∀ i, i < 8 → p i = 0) (n : Nat) (hf : ∀ i, i < n → f i = 0) (k : Nat) (hk : k < n) : mkOut a f p k = 0 := by
  unfold mkOut
  rw [guess_rest a _ (mk_rest a f p hp n hf k (by omega)), hf k hk]; rfl
/-- Folding. -/
def conv (a b : Nat → Int) (n : Nat) : Int := sumTo (n + 1) (fun i => a i * b (n - i))
def foldOut (a b : Nat → Int) (n : Nat) : Int := sat16 ((2048 + conv a b n) / 4096)
theorem foldOut_bd (a b : Nat → Int) (n : Nat) : In16 (foldOut a b n) := sat16_bd _
theorem conv_swap (a b : Nat → Int) (n : Nat) : conv a b n = conv b a n := by
  unfold conv
  rw [sumTo_rev]
  refine sumTo_congr _ fun i hi => ?_
  rw [show n + 1 - 1 - i = n - i by omega, show n - (n - i) = i by omega, Int.mul_comm]
def oneAt : Nat → Int := fun i => if i = 0 then 4096 else 0
theorem conv_one (a : Nat → Int) (n : Nat) : conv a oneAt n = a n * 4096 := by
  unfold conv
  rw [sumTo, sumTo_zero n (fun i hi => by unfold oneAt; rw [if_neg (by omega)]; simp)]
  simp [oneAt]
theorem fold_one {a : Nat → Int} {n : Nat} (h : In16 (a n)) : foldOut a oneAt n = a n := by
  unfold foldOut
  rw [conv_one, show (2048 + a n * 4096) / 4096 = a n by omega]
  exact sat16_in h
/-- The high-pass. -/
structure HP where
  (x0 x1 y0 y1 : Int)
def hpY (h : HP) (x : Int) : Int := sat16 ((3798 * x - 7596 * h.x0 + 3798 * h.x1 + 7807 * h.y0 - 3733 * h.y1 + 2048) / 4096)
def hpStep (h : HP) (x : Int) : HP := ⟨x, h.x0, hpY h x, h.y0⟩
def hpS (f : Nat → Int) (h : HP) : Nat → HP
  | 0 => h
  | k + 1 => hpStep (hpS f h k) (f k)
def hpOut (f : Nat → Int) (h : HP) (k : Nat) : Int := hpY (hpS f h k) (f k)
def HP.good (h : HP) : Prop := In16 h.x0 ∧ In16 h.x1 ∧ In16 h.y0 ∧ In16 h.y1
theorem hpS_good {f : Nat → Int} {h : HP} (hh : h.good) {n : Nat} (hf : ∀ i, i < n → In16 (f i)) : ∀ k, k ≤ n → (hpS f h k).good
  | 0, _ => hh
  | k + 1, hk => by
    have ih := hpS_good hh hf k (by omega)
    exact ⟨hf k (by omega), ih.1, sat16_bd _, ih.2.2.1⟩
theorem hpS_cut (f : Nat → Int) (h : HP) (m : Nat) : ∀ k, hpS f h (m + k) = hpS (fun i => f (m + i)) (hpS f h m) k
  | 0 => rfl
  | k + 1 => by rw [← Nat.add_assoc, hpS, hpS_cut f h m k, hpS]
theorem hpOut_cut (f : Nat → Int) (h : HP) (m k : Nat) : hpOut f h (m + k) = hpOut (fun i => f (m + i)) (hpS f h m) k := by
  unfold hpOut; rw [hpS_cut]
end Go.Proofs.YtcoicmbjoaonoaaDoor
/-
  pitch.Past walked. No statement is proved here.
-/
namespace Go.Proofs.YtcoicmbjoaonoaaDoor
set_option linter.unusedVariables false
set_option linter.unusedSimpArgs false
open Go.RowKit
set_option maxRecDepth 100000
/-- The past excitation, repeated by the lag. -/
def pastF (h : Nat → Int) (lag : Nat) (i : Nat) : Int := h (80 - lag + (if i < lag then i else i - lag))
def PastPost (h : Nat → Int) (lag : Nat) (w : World) (e : Ending) (w' : World) : Prop := ∃ g, e = .returned (.tuple #[.slice (some ⟨g, 0, none⟩) 40 40, .int .i64 0]) ∧ Has w w' [(g, 3, row 40 (pastF h lag))]
set_option maxHeartbeats 1600000 in
theorem Past_any (h : Nat → Int) (lag : Nat) (w : World) (h0 : 20 ≤ lag) (h1 : lag ≤ 79) :
    Calls Tryd.prog 73 #[.agg (row 80 h), .int .i64 lag] w (PastPost h lag w) := by
  have H := Has.start w
  have d1 := lt_no (show (20 : Int) ≤ lag by omega)
  have d2 := lt_no (show (lag : Int) ≤ 79 by omega)
  go_enter Tryd.func73, Tryd.ntmps73
  go_wp2_with (first | ((refine wpList_on (o := ⟨_, .box _ (.tmp 0), _, _, _, _⟩) rfl (fun K hK => ?_)); (try simp only [Act.put, List.setIfInBounds_toArray, List.set_cons_zero, List.set_cons_succ]); refine wp_box H _ (.tmp 0) rfl (v := .agg _) rfl ?_; clear H; intro u gh H; refine hK _ _ ?_; clear hK K; try simp only [Value.cells, List.cons_append, List.nil_append] at H) | ((refine wpList_on (o := ⟨some 14, .makeSlice _ _ _, _, _, _, _⟩) rfl (fun K hK => ?_)); refine wp_make_has (t_ := 35) (e := 3) H _ _ rfl 40 .i64 .i64 rfl rfl ?_ ?_ ?_ ?_ ?_; (kernel_rfl); (kernel_rfl); (omega); (omega); (clear H; intro u g H; refine hK _ _ ?_; clear hK K; try simp only [Value.cells, List.cons_append, List.nil_append] at H)))
  clear d1 d2
  simp only [show (40 : Int).toNat = 40 from rfl] at *
  go_loopw [17] (fun c wr => ∃ k : Nat, k ≤ 40 ∧ c = .int .i64 k ∧ Has w wr [(g, 3, row 40 fun i => if i < k then pastF h lag i else 0), (gh, 27, row 80 h)]) (fun c _ => 40 - (intOf c).toNat)
  case atStart => exact ⟨0, by omega, rfl, by simpa using H⟩
  clear H
  case round =>
    obtain ⟨k, hk, rfl, H⟩ := hrel
    by_cases hlt : k < 40
    · have HE : ∀ v, v = pastF h lag k → row 40 (fun i => if i < k + 1 then pastF h lag i else 0) = row 40 (fun j => if j = k then v else if j < k then pastF h lag j else 0) := fun v hv => row_congr fun i hi => by
        by_cases e : i = k
        · subst e; simp [hv]
        · have : i < k + 1 ↔ i < k := by omega
          simp [e, this]
      have HE' := Lib.hid HE
      clear HE
      by_cases hkl : k < lag
      · have HV : Hid (h (80 - lag + k) = pastF h lag k) := by show _ = _; unfold pastF; rw [if_pos hkl]
        have s1 : (80 - (lag : Int) + k).toNat = 80 - lag + k := by omega
        have d3 : decide (k < lag) = true := by simpa using hkl
        go_wp2_with (first | ((refine wpList_on (o := ⟨_, .load 3 _, _, _, _, _⟩) rfl (fun K hK => ?_)); (try simp only [Act.put, List.setIfInBounds_toArray, List.set_cons_zero, List.set_cons_succ]); refine wp_load_one H 3 _ rfl rfl (by repeat (first | exact List.mem_cons_self | apply List.mem_cons_of_mem | apply List.mem_append_right)) (by kernel_rfl) (row_get _ (by omega)) ?_; refine hK _ _ ?_; clear hK K) | ((refine wpList_on (o := ⟨_, .store 3 _ _, _, _, _, _⟩) rfl (fun K hK => ?_)); (try simp only [Act.put, List.setIfInBounds_toArray, List.set_cons_zero, List.set_cons_succ]); refine wp_store_row_ (l1 := []) H 3 _ _ rfl rfl rfl (by kernel_rfl) (by omega) ?_; clear H; intro u H; refine hK _ _ ?_; clear hK K; try simp only [Value.cells, List.cons_append, List.nil_append] at H))
        go_roundw
        case rel => exact ⟨k + 1, by omega, by go_num, by rw [HE'.out _ HV.out]; exact H⟩
        case measure => simp [intOf]; omega
      · have HV : Hid ((fun i => if i < k then pastF h lag i else 0) (k - lag) = pastF h lag k) := by
          show (fun i => if i < k then pastF h lag i else 0) (k - lag) = pastF h lag k
          simp only
          rw [if_pos (by omega)]
          unfold pastF
          rw [if_pos (by omega), if_neg hkl]
        have s1 : ((k : Int) - lag).toNat = k - lag := by omega
        have d3 : decide (k < lag) = false := by simp; omega
        go_wp2_with (first | ((refine wpList_on (o := ⟨_, .load 3 _, _, _, _, _⟩) rfl (fun K hK => ?_)); (try simp only [Act.put, List.setIfInBounds_toArray, List.set_cons_zero, List.set_cons_succ]); refine wp_load_one H 3 _ rfl rfl (by repeat (first | exact List.mem_cons_self | apply List.mem_cons_of_mem | apply List.mem_append_right)) (by kernel_rfl) (row_get _ (by omega)) ?_; refine hK _ _ ?_; clear hK K) | ((refine wpList_on (o := ⟨_, .store 3 _ _, _, _, _, _⟩) rfl (fun K hK => ?_)); (try simp only [Act.put, List.setIfInBounds_toArray, List.set_cons_zero, List.set_cons_succ]); refine wp_store_row_ (l1 := []) H 3 _ _ rfl rfl rfl (by kernel_rfl) (by omega) ?_; clear H; intro u H; refine hK _ _ ?_; clear hK K; try simp only [Value.cells, List.cons_append, List.nil_append] at H))
        go_roundw
        case rel => exact ⟨k + 1, by omega, by go_num, by rw [HE'.out _ HV.out]; exact H⟩
        case measure => simp [intOf]; omega
    · obtain rfl : k = 40 := by omega
      have HE : Hid (row 40 (fun i => if i < 40 then pastF h lag i else 0) = row 40 (pastF h lag)) := row_congr fun i hi => if_pos hi
      go_wp2
      go_ret2
      exact ⟨g, rfl, by rw [← HE.out]; exact H.sub (by repeat (first | exact List.Sublist.refl _ | exact List.nil_sublist _ | apply List.Sublist.cons_cons | apply List.Sublist.cons))⟩
end Go.Proofs.YtcoicmbjoaonoaaDoor
/-
  basic: numbers moved. Contracts of shift, Shl, Shr, LShl, LShr. No statement is proved here.
-/
namespace Go.Proofs.YtcoicmbjoaonoaaDoor
set_option linter.unusedVariables false
set_option linter.unusedSimpArgs false
open Go.RowKit
set_option maxRecDepth 100000

def moved (x n : Int) : Int := if n < 0 then x / 2 ^ (-n).toNat else x * 2 ^ (min n 32).toNat
theorem two_pos (a : Nat) : (0 : Int) < 2 ^ a := Int.pow_pos (by omega)
theorem two_le {a b : Nat} (h : a ≤ b) : (2 : Int) ^ a ≤ 2 ^ b := by
  obtain ⟨c, rfl⟩ := Nat.exists_eq_add_of_le h
  rw [Int.pow_add]
  have h1 := two_pos a
  have h2 := two_pos c
  have := Int.mul_le_mul_of_nonneg_left (show (1 : Int) ≤ 2 ^ c by omega) (show (0 : Int) ≤ 2 ^ a by omega)
  omega
theorem moved_bd (x n : Int) (hx : -2147483648 ≤ x ∧ x ≤ 2147483647) : -9223372036854775808 ≤ moved x n ∧ moved x n ≤ 9223372036854775807 := by
  unfold moved
  split
  · have hp := two_pos (-n).toNat
    generalize (2 : Int) ^ (-n).toNat = p at *
    have h3 := Int.emod_nonneg x (show p ≠ 0 by omega)
    have h4 := Int.emod_lt_of_pos x hp
    have h5 := Int.mul_ediv_add_emod x p
    generalize x / p = q at *
    generalize x % p = r at *
    by_cases h0 : 0 ≤ q
    · have := Int.mul_le_mul_of_nonneg_right (show (1 : Int) ≤ p by omega) h0
      omega
    · have := Int.mul_le_mul_of_nonneg_right (show (1 : Int) ≤ p by omega) (show 0 ≤ -q - 1 by omega)
      simp only [Int.one_mul, Int.mul_sub, Int.mul_neg, Int.mul_one] at this
      omega
  · have h1 := two_le (show (min n 32).toNat ≤ 32 by omega)
    have h2 := two_pos (min n 32).toNat
    rw [show (2 : Int) ^ 32 = 4294967296 from rfl] at h1
    generalize (2 : Int) ^ (min n 32).toNat = p at *
    have := mul_bd (x + 1) p 2147483648 4294967296
    by_cases h0 : 0 ≤ x
    · have a := mul_le_of x p 2147483647 4294967296 h0 hx.2 (by omega) h1
      omega
    · have a := mul_le_of (-x) p 2147483648 4294967296 (by omega) (by omega) (by omega) h1
      rw [Int.neg_mul] at a
      omega
/-- 'max(n, -40)'. -/
def lim (n : Int) : Int := if n < -40 then -40 else n
theorem lim_bd (n : Int) : -40 ≤ lim n := by unfold lim; split <;> omega
end Go.Proofs.YtcoicmbjoaonoaaDoor
/-
  gain.Fade, gain.Noise walked. No statement is proved here.
-/
namespace Go.Proofs.YtcoicmbjoaonoaaDoor
set_option linter.unusedVariables false
set_option linter.unusedSimpArgs false
open Go.RowKit
set_option maxRecDepth 100000
/-- A gain so many frames later. -/
def fadeI : Nat → Int → Int
  | 0, g => g
  | k + 1, g => fadeI k g * 26214 / 32768
theorem fadeI_bd (g : Int) (h0 : 0 ≤ g) : ∀ k, 0 ≤ fadeI k g ∧ fadeI k g ≤ g
  | 0 => ⟨h0, Int.le_refl _⟩
  | k + 1 => by have := fadeI_bd g h0 k; unfold fadeI; omega
def fade (g n : Int) : Int := if 6 ≤ n then 0 else fadeI n.toNat g
theorem fade_bd {g n : Int} (h0 : 0 ≤ g) : 0 ≤ fade g n ∧ fade g n ≤ g := by
  have := fadeI_bd g h0 n.toNat
  unfold fade; split <;> omega
theorem fade_falls {g n : Int} (h0 : 0 ≤ g) (hn : 0 ≤ n) : fade g (n + 1) ≤ fade g n ∧ (g = 0 ∨ fade g n = 0 ∨ fade g (n + 1) < fade g n) := by
  have h1 := fadeI_bd g h0 n.toNat
  have h2 := fadeI_bd g h0 (n.toNat + 1)
  have h3 : fadeI (n.toNat + 1) g = fadeI n.toNat g * 26214 / 32768 := rfl
  unfold fade
  rw [show (n + 1).toNat = n.toNat + 1 by omega]
  split <;> split <;> omega
set_option maxHeartbeats 800000 in
theorem Fade_any (g n : Int) (w : World) (h0 : 0 ≤ g) (h1 : g ≤ 32767) (hn0 : 0 ≤ n) (hn : n ≤ 1000) :
    Calls Tryd.prog 86 #[.int .i64 g, .int .i64 n] w fun e w' => e = .returned (.int .i64 (fade g n)) ∧ w = w' := by
  have d1 := lt_no h0
  by_cases h6 : 6 ≤ n
  · have d2 := le_yes h6
    have E0 : Hid (fade g n = 0) := if_pos h6
    go_enter Tryd.func86, Tryd.ntmps86
    go_wp2
    go_ret
    exact ⟨by rw [E0.out]; rfl, rfl⟩
  · have d2 := le_no (show n < 6 by omega)
    have E0 : Hid (fade g n = fadeI n.toNat g) := if_neg h6
    go_enter Tryd.func86, Tryd.ntmps86
    go_wp2
    go_loop [0, 14] (fun x i => ∃ k : Nat, (k : Int) ≤ n ∧ i = .int .i64 k ∧ x = .int .i64 (fadeI k g)) (fun _ i => (n - intOf i).toNat)
    case atStart => exact ⟨0, by omega, rfl, rfl⟩
    case round =>
      clear d1 d2
      obtain ⟨k, hk, rfl, rfl⟩ := hrel
      have hb := fadeI_bd g h0 k
      by_cases hlt : (k : Int) < n
      · have HF : Hid (fadeI (k + 1) g = fadeI k g * 26214 / 32768) := rfl
        generalize fadeI k g = y at *
        go_wp2
        go_round
        case rel => exact ⟨k + 1, by omega, by go_num, by rw [HF.out]⟩
        case measure => simp [intOf]; omega
      · have HK : Hid (n.toNat = k) := by show n.toNat = k; omega
        go_wp2
        go_ret
        exact ⟨by rw [E0.out, HK.out]; rfl, rfl⟩
/-- The next seed, and the sample that belongs to it. -/
def seedN (s : Int) : Int := (s * 31821 + 13849) % 65536
def noiseN (s size : Int) : Int := (seedN s - 32768) * (min (max size 0) 32767) / 32768
theorem seedN_bd (s : Int) : 0 ≤ seedN s ∧ seedN s < 65536 := by unfold seedN; omega
theorem and_16 (n : Int) : bits .and .i64 n 65535 = n % 65536 := by
  have h127 : (BitVec.ofInt 64 65535).toNat = 2 ^ 16 - 1 := by decide
  have key : (BitVec.ofInt 64 n &&& BitVec.ofInt 64 65535).toNat = (n % ((2 ^ 64 : Nat) : Int)).toNat % 2 ^ 16 := by
    rw [BitVec.toNat_and, BitVec.toNat_ofInt, h127, Nat.and_two_pow_sub_one_eq_mod]
  show IntKind.i64.wrap ((BitVec.ofInt 64 n &&& BitVec.ofInt 64 65535).toNat : Nat) = n % 65536
  rw [key, IntKind.wrap_i64]
  omega
theorem Noise_any (s size : Int) (w : World) :
    Calls Tryd.prog 102 #[.int .i64 s, .int .i64 size] w fun e w' => e = .returned (.tuple #[.int .i64 (seedN s), .int .i64 (noiseN s size)]) ∧ w = w' := by
  have e1 : bits .and .i64 (wrap64 (wrap64 (s * 31821) + 13849)) 65535 = seedN s := by
    rw [and_16]
    unfold seedN wrap64
    omega
  have hs := seedN_bd s
  have hn : noiseN s size = (seedN s - 32768) * (min (max size 0) 32767) / 32768 := rfl
  generalize seedN s = S at *
  by_cases h1 : size < 0
  · have HN : Hid (noiseN s size = 0) := by
      show noiseN s size = 0
      rw [hn, show min (max size 0) 32767 = 0 by omega]; simp
    have z0 : wrap64 0 = 0 := by unfold wrap64; rfl
    clear hn
    go_enter Tryd.func102, Tryd.ntmps102
    go_wp2
    all_goals go_ret2
    all_goals first | (exfalso; omega) | exact ⟨by rw [HN.out]; rfl, rfl⟩
  · by_cases h2 : size ≤ 32767
    · have HN : Hid (noiseN s size = (S - 32768) * size / 32768) := by
        show noiseN s size = (S - 32768) * size / 32768
        rw [hn, show min (max size 0) 32767 = size by omega]
      have m := mul_bd (S - 32768) size 32768 32767 (by omega) (by omega) (by omega) (by omega)
      have s1 : IntKind.i64.wrap ((S - 32768) * size) = (S - 32768) * size := IntWalk.i64_in _ (by omega)
      have h1' : 0 ≤ size := by omega
      clear hn h1 m
      go_enter Tryd.func102, Tryd.ntmps102
      go_wp2
      all_goals go_ret2
      all_goals first | (exfalso; omega) | exact ⟨by rw [HN.out]; rfl, rfl⟩
    · have HN : Hid (noiseN s size = (S - 32768) * 32767 / 32768) := by
        show noiseN s size = (S - 32768) * 32767 / 32768
        rw [hn, show min (max size 0) 32767 = 32767 by omega]
      have h1' : 0 ≤ size := by omega
      have h2' : 32767 < size := by omega
      clear hn h1 h2
      go_enter Tryd.func102, Tryd.ntmps102
      go_wp2
      all_goals go_ret2
      all_goals first | (exfalso; omega) | exact ⟨by rw [HN.out]; rfl, rfl⟩
end Go.Proofs.YtcoicmbjoaonoaaDoor
