/-
  A region that draws its order, walked in several orders: only the orders that can be are asked for. No statement is proved here.
-/
import Derived.Test.YtcoicmbjoaonoaaReg
namespace Go.Proofs.Ytcoicmbjoaonoaa
open Go.RowKit
section
variable {P : Program} {ops : Array Oper} {Q : Exit → Act → World → Prop} {S : World → Prop} {kind : Nat → Nat}
theorem dep_first : ∀ (π : List Nat) (listed : Array Bool), Lin ops π listed → ∀ y ∈ π, ∀ o, ops[y]? = some o → ∀ e ∈ o.after, Region.binds .any e = true →
    listed.getD e.on false = true ∨ (e.on ∈ π ∧ π.idxOf e.on < π.idxOf y)
  | [], _, _, y, hy, _, _, _, _, _ => by cases hy
  | i :: π, listed, h, y, hy, o, ho, e, he, hb => by
    by_cases hyi : y = i
    · subst hyi
      obtain ⟨_, o', ho', hall⟩ := mem_ready.1 h.1
      obtain rfl := Option.some.inj (ho.symm.trans ho')
      exact .inl (hall e he hb)
    · have hy' : y ∈ π := (List.mem_cons.1 hy).resolve_left hyi
      by_cases hei : e.on = i
      · rw [hei]
        exact .inr ⟨by simp, idxOf_head_lt hyi⟩
      · rcases dep_first π _ h.2 y hy' o ho e he hb with h1 | ⟨h1, h2⟩
        · left; rwa [getD_set_ne false (fun e0 => hei e0.symm)] at h1
        · right
          refine ⟨List.mem_cons_of_mem _ h1, ?_⟩
          rw [List.idxOf_cons, List.idxOf_cons]
          simp only [beq_iff_eq, show ¬ i = e.on from fun e0 => hei e0.symm, show ¬ i = y from fun e0 => hyi e0.symm, cond_false, if_false, Bool.cond_eq_ite]
          omega
theorem hangs_first {π : List Nat} (h : Lin ops π (Array.replicate ops.size false)) : ∀ (n y x : Nat), y ∈ π → hangs ops n y x = true → x ∈ π ∧ π.idxOf x < π.idxOf y
  | 0, _, _, _, hh => by simp [hangs] at hh
  | n + 1, y, x, hy, hh => by
    unfold hangs at hh
    cases ho : ops[y]? with
    | none => simp [ho] at hh
    | some o =>
      simp only [ho, Array.any_eq_true, Bool.and_eq_true, Bool.or_eq_true, beq_iff_eq] at hh
      obtain ⟨k, hk, hb, hor⟩ := hh
      have hd := dep_first π _ h y hy o ho o.after[k] (by simp) hb
      have hr : (Array.replicate ops.size false).getD o.after[k].on false = false := by
        rw [Array.getD_eq_getD_getElem?]
        by_cases hlt : o.after[k].on < ops.size <;> simp [hlt]
      rw [hr] at hd
      rcases hd with hd | ⟨h1, h2⟩
      · cases hd
      · rcases hor with he | he
        · rw [← he]; exact ⟨h1, h2⟩
        · obtain ⟨h3, h4⟩ := hangs_first h n _ _ h1 he
          exact ⟨h3, by omega⟩
/-- Can an order tell the pairs apart so? -/
def bitsOk (ms : List Nat) (acc : List ((Nat × Nat) × Bool)) : Bool :=
  acc.all fun a => (!depOf ms a.1.2 a.1.1 || a.2) && (!depOf ms a.1.1 a.1.2 || !a.2) && acc.all fun b => b.1.1 != a.1.2 || acc.all fun c => c.1 != (a.1.1, b.1.2) || (!(a.2 && b.2 && !c.2) && !(!a.2 && !b.2 && c.2))
def coversT (ms : List Nat) : List (Nat × Nat) → List ((Nat × Nat) × Bool) → List (List Nat) → Bool
  | [], acc, ls => !ls.isEmpty || !bitsOk ms acc
  | b :: B, acc, ls => coversT ms B ((b, true) :: acc) (ls.filter (ahead · b)) && coversT ms B ((b, false) :: acc) (ls.filter (!ahead · b))
/-- As an order tells pairs apart. -/
structure Told (ops : Array Oper) (p : Nat × Nat → Bool) : Prop where
  yes : ∀ x y, y < ops.size → (∃ n, hangs ops n y x = true) → p (x, y) = true
  no : ∀ x y, x < ops.size → (∃ n, hangs ops n x y = true) → p (x, y) = false
  up : ∀ x y z, p (x, y) = true → p (y, z) = true → p (x, z) = true
  down : ∀ x y z, p (x, y) = false → p (y, z) = false → p (x, z) = false
theorem bitsOk_told {p : Nat × Nat → Bool} {ms : List Nat} (hms : Masks ops ms) (T : Told ops p) {acc : List ((Nat × Nat) × Bool)} (h : ∀ e ∈ acc, e.2 = p e.1 ∧ e.1.1 < ops.size ∧ e.1.2 < ops.size) : bitsOk ms acc = true := by
  unfold bitsOk
  rw [List.all_eq_true]
  intro a ha
  obtain ⟨h1, h2, h3⟩ := h a ha
  obtain ⟨⟨x, y⟩, t⟩ := a
  simp only at h1 h2 h3 ⊢
  rw [Bool.and_eq_true, Bool.and_eq_true]
  refine ⟨⟨?_, ?_⟩, ?_⟩
  · by_cases hh : depOf ms y x = true
    · have := T.yes x y h3 (hms _ _ hh)
      simp [h1, this]
    · simp at hh; simp [hh]
  · by_cases hh : depOf ms x y = true
    · have := T.no x y h2 (hms _ _ hh)
      simp [h1, this]
    · simp at hh; simp [hh]
  · rw [List.all_eq_true]
    intro b hb
    obtain ⟨k1, _, _⟩ := h b hb
    obtain ⟨⟨y', z⟩, t'⟩ := b
    simp only at k1 ⊢
    by_cases hy : y' = y
    · subst hy
      rw [Bool.or_eq_true]; right
      rw [List.all_eq_true]
      intro c hc
      obtain ⟨m1, _, _⟩ := h c hc
      obtain ⟨⟨x', z'⟩, t''⟩ := c
      simp only at m1 ⊢
      by_cases hxz : (x', z') = (x, z)
      · rw [hxz] at m1
        have hu := T.up x y' z
        have hd := T.down x y' z
        rw [h1, k1, m1]
        revert hu hd
        cases p (x, y') <;> cases p (y', z) <;> cases p (x, z) <;> simp
      · simp [hxz]
    · simp [hy]
theorem coversT_spec {p : Nat × Nat → Bool} {ms : List Nat} (hms : Masks ops ms) (T : Told ops p) : ∀ (B : List (Nat × Nat)) (acc : List ((Nat × Nat) × Bool)) (ls : List (List Nat)), (∀ b ∈ B, b.1 < ops.size ∧ b.2 < ops.size) →
    (∀ e ∈ acc, e.2 = p e.1 ∧ e.1.1 < ops.size ∧ e.1.2 < ops.size) → coversT ms B acc ls = true → ∃ l ∈ ls, ∀ b ∈ B, ahead l b = p b
  | [], acc, ls, _, hacc, h => by
    cases ls with
    | nil =>
      rw [coversT, bitsOk_told hms T hacc] at h
      simp at h
    | cons l ls => exact ⟨l, by simp, by simp⟩
  | b :: B, acc, ls, hB, hacc, h => by
    simp only [coversT, Bool.and_eq_true] at h
    have hb' := hB b (by simp)
    cases hb : p b
    · obtain ⟨l, hl, hB'⟩ := coversT_spec hms T B _ _ (fun c hc => hB c (by simp [hc])) (fun e he => by
        rcases List.mem_cons.1 he with rfl | he
        · exact ⟨hb.symm, hb'.1, hb'.2⟩
        · exact hacc e he) h.2
      have := List.mem_filter.1 hl
      exact ⟨l, this.1, fun c hc => by
        rcases List.mem_cons.1 hc with rfl | hc
        · rw [hb]; simpa using this.2
        · exact hB' c hc⟩
    · obtain ⟨l, hl, hB'⟩ := coversT_spec hms T B _ _ (fun c hc => hB c (by simp [hc])) (fun e he => by
        rcases List.mem_cons.1 he with rfl | he
        · exact ⟨hb.symm, hb'.1, hb'.2⟩
        · exact hacc e he) h.1
      have := List.mem_filter.1 hl
      exact ⟨l, this.1, fun c hc => by
        rcases List.mem_cons.1 hc with rfl | hc
        · rw [hb]; simpa using this.2
        · exact hB' c hc⟩
def listOk (ops : Array Oper) (ms : List Nat) (kind : Nat → Nat) (B : List (Nat × Nat)) (l : List Nat) : Bool :=
  l.length == ops.size && (List.range ops.size).all (l.contains ·) && l.all (· < ops.size) && depsOk ops l && orderOkB ops ms kind B l
def ordersOkT (ops : Array Oper) (kind : Nat → Nat) (B : List (Nat × Nat)) (ls : List (List Nat)) : Bool :=
  !ls.isEmpty && B.all (fun b => decide (b.1 < ops.size) && decide (b.2 < ops.size)) && withMasks ops.toList [] fun ms => coversT ms B [] ls && ls.all (listOk ops ms kind B)
/-- THE LAW. -/
theorem wp_region_ordersT {id : Nat} {a : Act} {w : World} (kind : Nat → Nat) (S : World → Prop) (B : List (Nat × Nat)) (ls : List (List Nat)) (hm : P.follows .mixedOrders = true) (hs : Region.noSelect ops = true) (hok : ordersOkT ops kind B ls = true)
    (h : ∀ l ∈ ls, Seq_ P ops S kind Q l a w.drew) : (Code.region id ops true).wp P Q a w := by
  refine wp_region_draw fun t => ?_
  simp only [Region.schedule, hm, Bool.true_or, if_true]
  simp only [ordersOkT, Bool.and_eq_true, List.all_eq_true, decide_eq_true_eq] at hok
  obtain ⟨⟨hne, hsz⟩, hmk⟩ := hok
  obtain ⟨ms, hms, hmk⟩ := withMasks_spec hmk
  simp only [Bool.and_eq_true, List.all_eq_true] at hmk
  obtain ⟨hcov, hall⟩ := hmk
  have one : ∀ l ∈ ls, Lin ops (Region.linearise .any ops t) (Array.replicate ops.size false) ∧ (∀ j, j < ops.size → ((Array.replicate ops.size false).getD j true = false ↔ j ∈ l)) ∧ (∀ j ∈ l, j < ops.size) ∧ orderOkB ops ms kind B l = true ∧ ∀ j ∈ l, j ∈ Region.linearise .any ops t := fun l hl => by
    have hl' := hall l hl
    simp only [listOk, Bool.and_eq_true, List.all_eq_true] at hl'
    obtain ⟨⟨⟨⟨hlen, hin⟩, hlt⟩, hdep⟩, hord⟩ := hl'
    have hlt' : ∀ j ∈ l, j < ops.size := fun j hj => by simpa using hlt j hj
    have hmem : ∀ j, j < ops.size → ((Array.replicate ops.size false).getD j true = false ↔ j ∈ l) := fun j hj => by
      simp [hj]
      have := hin j (by simp [hj])
      simpa using this
    have hlin : Lin ops (Region.linearise .any ops t) (Array.replicate ops.size false) := lin_linearise ops.size t _ l (by simpa using hlen) (by simp) hmem hlt' hdep
    exact ⟨hlin, hmem, hlt', hord, Lin.all_ _ _ l hlin (by simp) hmem hlt' hdep⟩
  obtain ⟨l0, hl0⟩ : ∃ l, l ∈ ls := by
    cases ls with
    | nil => simp at hne
    | cons l _ => exact ⟨l, by simp⟩
  obtain ⟨hlin, hmem0, _, _, hπ0⟩ := one l0 hl0
  have hinπ : ∀ j, j < ops.size → j ∈ Region.linearise .any ops t := fun j hj => hπ0 j ((hmem0 j hj).1 (by simp [hj]))
  have T : Told ops (fun b => ahead (Region.linearise .any ops t) b) := by
    refine ⟨fun x y hy hh => ?_, fun x y hx hh => ?_, fun x y z h1 h2 => ?_, fun x y z h1 h2 => ?_⟩
    · obtain ⟨nh, hh⟩ := hh
      have := (hangs_first hlin nh y x (hinπ y hy) hh).2
      simpa [ahead] using this
    · obtain ⟨nh, hh⟩ := hh
      have := (hangs_first hlin nh x y (hinπ x hx) hh).2
      simp [ahead]; omega
    · simp only [ahead, decide_eq_true_eq] at *; omega
    · simp only [ahead, decide_eq_false_iff_not] at *; omega
  obtain ⟨l, hl, hB⟩ := coversT_spec hms T B [] ls hsz (by simp) hcov
  obtain ⟨_, hmem, hlt', hord, hin⟩ := one l hl
  refine ops_of_seq hms (Region.noSelect_spec hs) (B := B) _ _ l a _ hlin (by simp) hmem hlt' hord (fun z o hz => ?_) (fun b hb _ _ => hB b hb) hin (fun j hj => ?_) (h l hl)
  · exfalso
    rw [Array.getD_eq_getD_getElem?] at hz
    by_cases hzl : z < ops.size <;> simp [hzl] at hz
  · exact (hmem j (Lin.small _ _ hlin j hj)).1 (Lin.unlisted _ _ hlin j hj)
end
theorem wp_region_ordT {P : Program} {ops : Array Oper} {Q : Exit → Act → World → Prop} {id : Nat} {a : Act} {w : World} (quiet : List Nat) (over : List (Nat × Nat)) (S : World → Prop) (B : List (Nat × Nat)) (ls : List (List Nat)) (hm : P.follows .mixedOrders = true) (hs : Region.noSelect ops = true)
    (hok : ordersOkT ops (kindB quiet over ops) B ls = true) (h : ∀ l ∈ ls, Seq_ P ops S (kindB quiet over ops) Q l a w.drew) : (Code.region id ops true).wp P Q a w :=
  wp_region_ordersT _ S B ls hm hs hok h
end Go.Proofs.Ytcoicmbjoaonoaa
