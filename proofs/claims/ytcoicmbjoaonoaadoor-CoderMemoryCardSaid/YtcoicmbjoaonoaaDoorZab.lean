/-
  Several texts of this claim, one behind the other: Reg. No statement is proved here.
-/
import Derived.Test.YtcoicmbjoaonoaaDoorZaa
import Derived.Orders
/-
  A region that draws its order, walked in one order of the prover's choice. No statement is proved here.
-/
namespace Go.Proofs.YtcoicmbjoaonoaaDoor
set_option linter.unusedVariables false
set_option linter.unusedSimpArgs false
open Go.RowKit
set_option maxRecDepth 100000

section
variable {P : Program} {ops : Array Oper} {Q : Exit → Act → World → Prop} {S : World → Prop} {kind : Nat → Nat}

/-- No way out but the plain one. -/
def NoQ : Exit → Act → World → Prop := fun _ _ _ => False

/-- Operation o yields v at world w and leaves w. -/
def Still (P : Program) (o : Oper) (a : Act) (w : World) (v : Value) : Prop :=
  match (execOp a.eval o).run P w with
  | .ok (.value u) w' => u = v ∧ w' = w
  | .ok .skip w' => undef = v ∧ w' = w
  | .ok (.enter f args) w' => Calls P f args w' fun e w'' => e = .returned v ∧ w'' = w
  | _ => False

theorem Still.congr {o : Oper} {a a' : Act} {w : World} {v : Value} (he : execOp a'.eval o = execOp a.eval o) (h : Still P o a w v) : Still P o a' w v := by
  unfold Still at *
  rw [he]; exact h

theorem Still.wp {o : Oper} {a : Act} {w : World} {v : Value} {K : Act → World → Prop} (h : Still P o a w v) (hK : K (a.put o.dst v) w) : o.wp P a w K Q := by
  unfold Still at h
  unfold Oper.wp
  generalize (execOp a.eval o).run P w = r at *
  cases r with
  | ok n w' =>
    cases n <;> simp only [Oper.upon] at h ⊢
    case value u => obtain ⟨rfl, rfl⟩ := h; exact hK
    case skip => obtain ⟨rfl, rfl⟩ := h; exact hK
    case enter f args =>
      refine Calls.mono h fun e w'' he => ?_
      obtain ⟨rfl, rfl⟩ := he
      exact hK
  | halt x w' => exact h.elim

/-- Operation o yields v in every world, and turns none. -/
def Plain (P : Program) (o : Oper) (a : Act) (v : Value) : Prop := ∀ w, (execOp a.eval o).run P w = .ok (.value v) w
theorem Plain.still {o : Oper} {a : Act} {v : Value} (h : Plain P o a v) (w : World) : Still P o a w v := by
  unfold Still; rw [h w]; exact ⟨rfl, rfl⟩
theorem Plain.congr {o : Oper} {a a' : Act} {v : Value} (he : execOp a'.eval o = execOp a.eval o) (h : Plain P o a v) : Plain P o a' v := fun w => by rw [he]; exact h w

/-- Operation i next, then K. kind: 0 it yields the same in every world; 1 in every world that meets S; 2 at this world; 3 it may change the world and S holds behind it; 4 it may change the world. -/
def Next_ (P : Program) (ops : Array Oper) (S : World → Prop) (kind : Nat → Nat) (i : Nat) (K : Act → World → Prop) (a : Act) (w : World) : Prop :=
  match ops[i]? with
  | none => K a w
  | some o =>
    if Region.wanted o (yielded ops a.tmps) then
      if kind i ≤ 2 then ∃ v, Still P o a w v ∧ (kind i = 0 → Plain P o a v) ∧ (kind i = 1 → ∀ w', S w' → Still P o a w' v) ∧ K (a.put o.dst v) w
      else o.wp P a w (fun a' w' => (kind i = 3 → S w') ∧ K a' w') NoQ
    else K (a.put o.dst undef) w

def Seq_ (P : Program) (ops : Array Oper) (S : World → Prop) (kind : Nat → Nat) (Q : Exit → Act → World → Prop) : List Nat → Act → World → Prop
  | [], a, w => Q .normal a w
  | i :: rest, a, w => Next_ P ops S kind i (Seq_ P ops S kind Q rest) a w

theorem Next_.mono {i : Nat} {K K' : Act → World → Prop} {a : Act} {w : World} (hK : ∀ a w, K a w → K' a w) (h : Next_ P ops S kind i K a w) : Next_ P ops S kind i K' a w := by
  unfold Next_ at *
  split
  · rename_i ho; simp only [ho] at h; exact hK _ _ h
  · rename_i o ho
    simp only [ho] at h
    split
    · rename_i hw
      simp only [hw, if_true] at h
      split
      · rename_i hk
        simp only [hk, if_true] at h
        obtain ⟨v, h1, h2, h3, h4⟩ := h
        exact ⟨v, h1, h2, h3, hK _ _ h4⟩
      · rename_i hk
        simp only [hk, if_false] at h
        exact Oper.wp_mono (fun a w ⟨h1, h2⟩ => ⟨h1, hK _ _ h2⟩) h
    · rename_i hw
      simp only [hw] at h
      exact hK _ _ h

theorem wp_noQ {o : Oper} {a : Act} {w : World} {K : Act → World → Prop} (h : o.wp P a w K NoQ) : o.wp P a w K Q := by
  unfold Oper.wp at *
  generalize (execOp a.eval o).run P w = r at *
  cases r with
  | ok n w' =>
    cases n <;> simp only [Oper.upon] at h ⊢
    case value u => exact h
    case skip => exact h
    case enter f args =>
      refine Calls.mono h fun e w'' he => ?_
      cases e with
      | returned v => exact he
      | panicked c => exact he.elim
      | outgrown => obtain ⟨_, _, hf⟩ := he; exact hf.elim
    case defer d => exact h
    case row r args => exact h
  | halt x w' =>
    cases x <;> first | exact h | exact h.elim

theorem Next_.wpOp {i : Nat} {K : Act → World → Prop} {a : Act} {w : World} (h : Next_ P ops S kind i K a w) : wpOp P ops Q i K a w := by
  unfold Next_ at h
  unfold Go.wpOp
  split
  · rename_i ho; simp only [ho] at h; exact h
  · rename_i o ho
    simp only [ho] at h
    split
    · rename_i hw
      simp only [hw, if_true] at h
      by_cases hk : kind i ≤ 2
      · simp only [hk, if_true] at h
        obtain ⟨v, h1, _, _, h4⟩ := h
        exact .inl (h1.wp h4)
      · simp only [hk, if_false] at h
        exact .inl (wp_noQ (Oper.wp_mono (fun a w ⟨_, h2⟩ => h2) h))
    · rename_i hw
      simp only [hw] at h
      exact h

/-- An operation that is carried out behind a slot that it does not look at. -/
theorem wp_put {ox oi : Oper} {v : Value} (hap : ox.apart ops oi = true) (hsx : ∀ cs b, ox.op ≠ .select cs b) (hsi : ∀ cs b, oi.op ≠ .select cs b)
    {K : Act → World → Prop} {a : Act} {w : World} (h : oi.wp P (a.put ox.dst v) w K NoQ) :
    oi.wp P a w (fun a' w' => (execOp a'.eval ox = execOp a.eval ox ∧ Region.wanted ox (yielded ops a'.tmps) = Region.wanted ox (yielded ops a.tmps)) ∧ K (a'.put ox.dst v) w') NoQ := by
  obtain ⟨h1, h2, h3⟩ := Oper.apart_spec hap
  have keep : ∀ u, execOp (a.put oi.dst u).eval ox = execOp a.eval ox ∧ Region.wanted ox (yielded ops (a.put oi.dst u).tmps) = Region.wanted ox (yielded ops a.tmps) :=
    fun u => ⟨execOp_put ox hsx a oi.dst u h3, wanted_put ox a oi.dst u h3⟩
  have keepD : ∀ d u, execOp (({ a with defers := d :: a.defers } : Act).put oi.dst u).eval ox = execOp a.eval ox ∧ Region.wanted ox (yielded ops (({ a with defers := d :: a.defers } : Act).put oi.dst u).tmps) = Region.wanted ox (yielded ops a.tmps) :=
    fun d u => ⟨(execOp_put ox hsx _ oi.dst u h3).trans rfl, (wanted_put ox _ oi.dst u h3).trans rfl⟩
  unfold Oper.wp at *
  rw [execOp_put oi hsi a ox.dst v h1] at h
  generalize (execOp a.eval oi).run P w = r at *
  cases r with
  | ok n w' =>
    cases n <;> simp only [Oper.upon] at h ⊢
    case value u => exact ⟨keep u, by rw [← Act.put_comm a v u h2]; exact h⟩
    case skip => exact ⟨keep _, by rw [← Act.put_comm a v undef h2]; exact h⟩
    case defer d =>
      refine ⟨keepD d _, ?_⟩
      rw [← Act.put_comm _ v undef h2, ← Act.put_defers]
      exact h
    case enter f args =>
      refine Calls.mono h fun e w'' he => ?_
      cases e with
      | returned u => exact ⟨keep u, by rw [← Act.put_comm a v u h2]; exact he⟩
      | panicked c => exact he
      | outgrown => exact he
    case row row args => exact Rows.mono h fun u w'' he => ⟨keep u, by rw [← Act.put_comm a v u h2]; exact he⟩
  | halt x w' => cases x <;> exact h.elim

/-- Two that may change places. -/
def swapOk (kind : Nat → Nat) (x i : Nat) : Bool :=
  (kind x ≤ 2 && (kind i ≤ 2 || kind x == 0 || (kind x == 1 && kind i == 3))) || (2 < kind x && kind i == 0)

theorem Next_.put_ {x : Oper} {i : Nat} {v : Value} {K : Act → World → Prop} {a : Act} {w : World}
    (hap : ∀ oi, ops[i]? = some oi → x.apart ops oi = true) (hsx : ∀ cs b, x.op ≠ .select cs b) (hsel : ∀ (j : Nat) (o : Oper) cs b, ops[j]? = some o → o.op ≠ .select cs b)
    (h : Next_ P ops S kind i K (a.put x.dst v) w) :
    Next_ P ops S kind i (fun a' w' => (execOp a'.eval x = execOp a.eval x ∧ Region.wanted x (yielded ops a'.tmps) = Region.wanted x (yielded ops a.tmps)) ∧ (kind i ≤ 2 → w' = w) ∧ K (a'.put x.dst v) w') a w := by
  unfold Next_ at *
  cases ho : ops[i]? with
  | none =>
    simp only [ho] at h ⊢
    exact ⟨⟨trivial, trivial⟩, fun _ => trivial, h⟩
  | some o =>
    simp only [ho] at h ⊢
    obtain ⟨h1, h2, h3⟩ := Oper.apart_spec (hap o ho)
    have hso := hsel i o
    rw [wanted_put o a x.dst v h1] at h
    split
    · rename_i hw
      simp only [hw, if_true] at h
      split
      · rename_i hk
        simp only [hk, if_true] at h
        obtain ⟨u, g1, g2, g3, g4⟩ := h
        have he := execOp_put o (fun cs b => hsel i o cs b ho) a x.dst v h1
        refine ⟨u, g1.congr he.symm, fun hk => (g2 hk).congr he.symm, fun hk w' hs => (g3 hk w' hs).congr he.symm, ⟨?_, ?_⟩, fun _ => trivial, ?_⟩
        · exact execOp_put x hsx a o.dst u h3
        · exact wanted_put x a o.dst u h3
        · rw [← Act.put_comm a v u h2]; exact g4
      · rename_i hk
        simp only [hk, if_false] at h
        exact Oper.wp_mono (fun a' w' ⟨g1, g2, g3⟩ => ⟨g2, g1, fun hk' => absurd hk' hk, g3⟩) (wp_put (hap o ho) hsx (fun cs b => hsel i o cs b ho) h)
    · rename_i hw
      simp only [hw] at h
      refine ⟨⟨execOp_put x hsx a o.dst undef h3, wanted_put x a o.dst undef h3⟩, fun _ => trivial, ?_⟩
      rw [← Act.put_comm a v undef h2]
      exact h

theorem Next_.keeps {i : Nat} {K : Act → World → Prop} {a : Act} {w : World} (hi : (ops[i]?).isSome = true) (hw : ∀ o, ops[i]? = some o → Region.wanted o (yielded ops a.tmps) = true) (h : Next_ P ops S kind i K a w) :
    Next_ P ops S kind i (fun a' w' => (kind i = 3 → S w') ∧ K a' w') a w := by
  unfold Next_ at *
  cases ho : ops[i]? with
  | none => simp [ho] at hi
  | some o =>
    simp only [ho] at h ⊢
    have hw' := hw o ho
    simp only [hw', if_true] at h ⊢
    split
    · rename_i hk
      simp only [hk, if_true] at h
      obtain ⟨u, g1, g2, g3, g4⟩ := h
      exact ⟨u, g1, g2, g3, fun h3 => by omega, g4⟩
    · rename_i hk
      simp only [hk, if_false] at h
      exact Oper.wp_mono (fun a' w' ⟨g1, g2⟩ => ⟨g1, g1, g2⟩) h

theorem wp_some {ox : Oper} {K : Act → World → Prop} {a : Act} {w : World} (h : ox.wp P a w K NoQ) : ∃ a' w', K a' w' := by
  unfold Oper.wp at h
  generalize (execOp a.eval ox).run P w = r at *
  cases r with
  | ok n w' =>
    cases n <;> simp only [Oper.upon] at h
    case value u => exact ⟨_, _, h⟩
    case skip => exact ⟨_, _, h⟩
    case defer d => exact ⟨_, _, h⟩
    case enter f args =>
      obtain ⟨e, w'', fr, hr, _⟩ := h []
      cases e with
      | returned v => exact ⟨_, _, hr⟩
      | panicked c => exact hr.elim
      | outgrown => obtain ⟨_, _, hf⟩ := hr; exact hf.elim
    case row r args =>
      obtain ⟨v, w'', hr, _⟩ := h default []
      exact ⟨_, _, hr⟩
  | halt x w' => cases x <;> exact h.elim
theorem wp_keep {ox oi : Oper} (hap : ox.apart ops oi = true) (hsi : ∀ cs b, oi.op ≠ .select cs b) {K : Act → World → Prop} {a : Act} {w : World} (h : ox.wp P a w K NoQ) :
    ox.wp P a w (fun a' w' => (execOp a'.eval oi = execOp a.eval oi ∧ Region.wanted oi (yielded ops a'.tmps) = Region.wanted oi (yielded ops a.tmps)) ∧ K a' w') NoQ := by
  obtain ⟨h1, h2, h3⟩ := Oper.apart_spec hap
  have keep : ∀ u, execOp (a.put ox.dst u).eval oi = execOp a.eval oi ∧ Region.wanted oi (yielded ops (a.put ox.dst u).tmps) = Region.wanted oi (yielded ops a.tmps) :=
    fun u => ⟨execOp_put oi hsi a ox.dst u h1, wanted_put oi a ox.dst u h1⟩
  have keepD : ∀ d u, execOp (({ a with defers := d :: a.defers } : Act).put ox.dst u).eval oi = execOp a.eval oi ∧ Region.wanted oi (yielded ops (({ a with defers := d :: a.defers } : Act).put ox.dst u).tmps) = Region.wanted oi (yielded ops a.tmps) :=
    fun d u => ⟨(execOp_put oi hsi _ ox.dst u h1).trans rfl, (wanted_put oi _ ox.dst u h1).trans rfl⟩
  unfold Oper.wp at *
  generalize (execOp a.eval ox).run P w = r at *
  cases r with
  | ok n w' =>
    cases n <;> simp only [Oper.upon] at h ⊢
    case value u => exact ⟨keep u, h⟩
    case skip => exact ⟨keep _, h⟩
    case defer d => exact ⟨keepD d _, h⟩
    case enter f args =>
      refine Calls.mono h fun e w'' he => ?_
      cases e with
      | returned u => exact ⟨keep u, he⟩
      | panicked c => exact he
      | outgrown => exact he
    case row row args => exact Rows.mono h fun u w'' he => ⟨keep u, he⟩
  | halt x w' => cases x <;> exact h.elim
theorem wp_unput {ox oi : Oper} {v : Value} (hap : ox.apart ops oi = true) (hsx : ∀ cs b, ox.op ≠ .select cs b) {K : Act → World → Prop} {a : Act} {w : World} (h : ox.wp P a w (fun a' w' => K (a'.put oi.dst v) w') NoQ) : ox.wp P (a.put oi.dst v) w K NoQ := by
  obtain ⟨h1, h2, h3⟩ := Oper.apart_spec hap
  unfold Oper.wp at *
  rw [execOp_put ox hsx a oi.dst v h3]
  generalize (execOp a.eval ox).run P w = r at *
  cases r with
  | ok n w' =>
    cases n <;> simp only [Oper.upon] at h ⊢
    case value u => rw [← Act.put_comm a u v h2]; exact h
    case skip => rw [← Act.put_comm a undef v h2]; exact h
    case defer d =>
      rw [Act.put_defers, ← Act.put_comm _ undef v h2]
      exact h
    case enter f args =>
      refine Calls.mono h fun e w'' he => ?_
      cases e with
      | returned u => dsimp only at he ⊢; rw [← Act.put_comm a u v h2]; exact he
      | panicked c => exact he
      | outgrown => exact he
    case row row args => exact Rows.mono h fun u w'' he => by rw [← Act.put_comm a u v h2]; exact he
  | halt x w' => cases x <;> exact h.elim

/-- A plain operation taken ahead of one that changes the world. -/
theorem Next_.ahead_ {x i : Nat} {K : Act → World → Prop} {a : Act} {w : World} (hx3 : 2 < kind x) (hi0 : kind i = 0)
    (hap : ∀ ox oi, ops[x]? = some ox → ops[i]? = some oi → ox.apart ops oi = true) (hsel : ∀ (j : Nat) (o : Oper) cs b, ops[j]? = some o → o.op ≠ .select cs b)
    (h : Next_ P ops S kind x (Next_ P ops S kind i K) a w) : Next_ P ops S kind i (Next_ P ops S kind x K) a w := by
  cases hox : ops[x]? with
  | none =>
    have e : ∀ K : Act → World → Prop, Next_ P ops S kind x K = K := fun K => by funext a w; simp [Next_, hox]
    rw [e] at h ⊢; exact h
  | some ox =>
    cases hoi : ops[i]? with
    | none =>
      have e : ∀ K : Act → World → Prop, Next_ P ops S kind i K = K := fun K => by funext a w; simp [Next_, hoi]
      rw [e] at h ⊢; exact h
    | some oi =>
      have hap' := hap ox oi hox hoi
      have hsx : ∀ cs b, ox.op ≠ .select cs b := fun cs b => hsel x ox cs b hox
      have hsi : ∀ cs b, oi.op ≠ .select cs b := fun cs b => hsel i oi cs b hoi
      obtain ⟨h1, h2, h3⟩ := Oper.apart_spec hap'
      have ex : ∀ (K : Act → World → Prop) a w, Next_ P ops S kind x K a w ↔ if Region.wanted ox (yielded ops a.tmps) then
          ox.wp P a w (fun a' w' => (kind x = 3 → S w') ∧ K a' w') NoQ else K (a.put ox.dst undef) w := fun K a w => by
        unfold Next_; simp only [hox]; rw [if_neg (show ¬ kind x ≤ 2 by omega)]
      have ei : ∀ (K : Act → World → Prop) a w, Next_ P ops S kind i K a w ↔ if Region.wanted oi (yielded ops a.tmps) then
          ∃ v, Plain P oi a v ∧ K (a.put oi.dst v) w else K (a.put oi.dst undef) w := fun K a w => by
        unfold Next_; simp only [hoi]; rw [if_pos (show kind i ≤ 2 by omega)]
        split
        · exact ⟨fun ⟨v, _, g2, _, g4⟩ => ⟨v, g2 hi0, g4⟩, fun ⟨v, g2, g4⟩ => ⟨v, g2.still w, fun _ => g2, fun h => by omega, g4⟩⟩
        · exact Iff.rfl
      rw [ex] at h
      split at h
      · rename_i hw
        have hk := wp_keep hap' hsi h
        by_cases hwi : Region.wanted oi (yielded ops a.tmps) = true
        · obtain ⟨a1, w1, ⟨he, hwe⟩, _, hn⟩ := wp_some hk
          rw [ei, hwe, if_pos hwi] at hn
          obtain ⟨v, hv, _⟩ := hn
          have hv' : Plain P oi a v := hv.congr he.symm
          rw [ei, if_pos hwi]
          refine ⟨v, hv', ?_⟩
          rw [ex, wanted_put ox a oi.dst v h3, if_pos hw]
          refine wp_unput hap' hsx (Oper.wp_mono (fun a' w' ⟨⟨he', hwe'⟩, hS, hn'⟩ => ⟨hS, ?_⟩) hk)
          rw [ei, hwe', if_pos hwi] at hn'
          obtain ⟨v', hv2, hK⟩ := hn'
          have e1 := hv2 w'
          rw [he', hv' w'] at e1
          injection e1 with e1 _
          injection e1 with e1
          rw [e1]; exact hK
        · rw [ei, if_neg hwi, ex, wanted_put ox a oi.dst undef h3, if_pos hw]
          refine wp_unput hap' hsx (Oper.wp_mono (fun a' w' ⟨⟨_, hwe'⟩, hS, hn'⟩ => ⟨hS, ?_⟩) hk)
          rw [ei, hwe', if_neg hwi] at hn'
          exact hn'
      · rename_i hw
        rw [ei, wanted_put oi a ox.dst undef h1] at h
        rw [ei]
        split at h
        · rename_i hwi
          rw [if_pos hwi]
          obtain ⟨v, hv, hK⟩ := h
          refine ⟨v, hv.congr (execOp_put oi hsi a ox.dst undef h1).symm, ?_⟩
          rw [ex, wanted_put ox a oi.dst v h3, if_neg hw, ← Act.put_comm a undef v h2]
          exact hK
        · rename_i hwi
          rw [if_neg hwi, ex, wanted_put ox a oi.dst undef h3, if_neg hw, ← Act.put_comm a undef undef h2]
          exact h

theorem Next_.swap {x i : Nat} {K : Act → World → Prop} {a : Act} {w : World} (hok : swapOk kind x i = true)
    (hap : ∀ ox oi, ops[x]? = some ox → ops[i]? = some oi → ox.apart ops oi = true) (hsel : ∀ (j : Nat) (o : Oper) cs b, ops[j]? = some o → o.op ≠ .select cs b)
    (h : Next_ P ops S kind x (Next_ P ops S kind i K) a w) : Next_ P ops S kind i (Next_ P ops S kind x K) a w := by
  simp only [swapOk, Bool.and_eq_true, Bool.or_eq_true, decide_eq_true_eq, beq_iff_eq] at hok
  rcases hok with ⟨hx2, hor⟩ | ⟨hx3, hi0⟩
  case inr => exact Next_.ahead_ hx3 hi0 hap hsel h
  cases hox : ops[x]? with
  | none =>
    have e : ∀ K : Act → World → Prop, Next_ P ops S kind x K = K := fun K => by funext a w; simp [Next_, hox]
    rw [e] at h ⊢; exact h
  | some ox =>
    have ex : ∀ (K : Act → World → Prop) a w, Next_ P ops S kind x K a w ↔ if Region.wanted ox (yielded ops a.tmps) then
        ∃ v, Still P ox a w v ∧ (kind x = 0 → Plain P ox a v) ∧ (kind x = 1 → ∀ w', S w' → Still P ox a w' v) ∧ K (a.put ox.dst v) w
        else K (a.put ox.dst undef) w := fun K a w => by unfold Next_; simp only [hox, hx2, if_true]
    rw [ex] at h
    have hap' : ∀ oi, ops[i]? = some oi → ox.apart ops oi = true := fun oi hi => hap ox oi hox hi
    have hsx : ∀ cs b, ox.op ≠ .select cs b := fun cs b => hsel x ox cs b hox
    split at h
    · rename_i hw
      obtain ⟨v, g1, g2, g3, g4⟩ := h
      have hp := Next_.put_ hap' hsx hsel g4
      cases hoi : ops[i]? with
      | none =>
        have e : ∀ K : Act → World → Prop, Next_ P ops S kind i K = K := fun K => by funext a w; simp [Next_, hoi]
        rw [e] at hp ⊢
        rw [ex, if_pos hw]
        exact ⟨v, g1, g2, g3, hp.2.2⟩
      | some oi =>
        by_cases hwi : Region.wanted oi (yielded ops a.tmps) = true
        · have hp' := Next_.keeps (by rw [hoi]; rfl) (fun o ho => by rw [hoi] at ho; cases ho; exact hwi) hp
          refine Next_.mono (fun a' w' ⟨hS, ⟨he, hwx⟩, hww, hK⟩ => ?_) hp'
          rw [ex, hwx, if_pos hw]
          refine ⟨v, ?_, fun hk => (g2 hk).congr he, fun hk w'' hs => (g3 hk w'' hs).congr he, hK⟩
          rcases hor with (hi2 | hx0) | ⟨hx1, hi3⟩
          · rw [hww hi2]; exact g1.congr he
          · exact ((g2 hx0).still w').congr he
          · exact (g3 hx1 w' (hS hi3)).congr he
        · have en : ∀ (K : Act → World → Prop), Next_ P ops S kind i K a w = K (a.put oi.dst undef) w := fun K => by unfold Next_; simp only [hoi, hwi]; rfl
          rw [en] at hp ⊢
          obtain ⟨⟨he, hwx⟩, _, hK⟩ := hp
          rw [ex, hwx, if_pos hw]
          exact ⟨v, g1.congr he, fun hk => (g2 hk).congr he, fun hk w'' hs => (g3 hk w'' hs).congr he, hK⟩
    · rename_i hw
      have hp := Next_.put_ hap' hsx hsel h
      refine Next_.mono (fun a' w' ⟨⟨_, hwx⟩, _, hK⟩ => ?_) hp
      rw [ex, hwx, if_neg hw]
      exact hK

theorem Seq_.pull {i : Nat} {l2 : List Nat} (hsel : ∀ (j : Nat) (o : Oper) cs b, ops[j]? = some o → o.op ≠ .select cs b) :
    ∀ (l1 : List Nat) (a : Act) (w : World), (∀ x ∈ l1, swapOk kind x i = true ∧ ∀ ox oi, ops[x]? = some ox → ops[i]? = some oi → ox.apart ops oi = true) →
      Seq_ P ops S kind Q (l1 ++ i :: l2) a w → Next_ P ops S kind i (Seq_ P ops S kind Q (l1 ++ l2)) a w
  | [], a, w, _, h => h
  | x :: l1, a, w, hl, h => by
    have hx := hl x (by simp)
    refine Next_.swap hx.1 hx.2 hsel (Next_.mono (fun a' w' h' => ?_) h)
    exact Seq_.pull hsel l1 a' w' (fun y hy => hl y (by simp [hy])) h'

/-- y hangs on x, by some steps. -/
def hangs (ops : Array Oper) : Nat → Nat → Nat → Bool
  | 0, _, _ => false
  | n + 1, y, x => match ops[y]? with
    | none => false
    | some o => o.after.any fun e => Region.binds .any e && (e.on == x || hangs ops n e.on x)

/-- A number written out before it is used. -/
def forced (n : Nat) (k : Nat → Bool) : Bool := match n with
  | 0 => k 0
  | m + 1 => k (m + 1)
theorem forced_eq (n : Nat) (k : Nat → Bool) : forced n k = k n := by cases n <;> rfl
/-- On which operations one hangs, by those ahead of it: a bit each. -/
def maskOf (o : Oper) (acc : List Nat) : Nat := o.after.toList.foldl (fun m e => if Region.binds .any e then m ||| (2 ^ e.on ||| acc.getD e.on 0) else m) 0
def withMasks : List Oper → List Nat → (List Nat → Bool) → Bool
  | [], acc, k => k acc
  | o :: rest, acc, k => forced (maskOf o acc) fun m => withMasks rest (acc ++ [m]) k
def depOf (ms : List Nat) (y x : Nat) : Bool := (ms.getD y 0).testBit x
def Masks (ops : Array Oper) (ms : List Nat) : Prop := ∀ y x, depOf ms y x = true → ∃ n, hangs ops n y x = true
theorem maskOf_bit {acc : List Nat} {x : Nat} : ∀ (L : List Edge) (m : Nat), (L.foldl (fun m e => if Region.binds .any e then m ||| (2 ^ e.on ||| acc.getD e.on 0) else m) m).testBit x = true →
    m.testBit x = true ∨ ∃ e ∈ L, Region.binds .any e = true ∧ (e.on = x ∨ (acc.getD e.on 0).testBit x = true)
  | [], m, h => .inl h
  | e :: L, m, h => by
    rw [List.foldl_cons] at h
    rcases maskOf_bit L _ h with h1 | ⟨e', he', h1⟩
    · by_cases hb : Region.binds .any e = true
      · rw [if_pos hb, Nat.testBit_or, Nat.testBit_or, Bool.or_eq_true, Bool.or_eq_true] at h1
        rcases h1 with h1 | h1 | h1
        · exact .inl h1
        · refine .inr ⟨e, by simp, hb, .inl ?_⟩
          rw [Nat.testBit_two_pow] at h1
          simpa using h1
        · exact .inr ⟨e, by simp, hb, .inr h1⟩
      · rw [if_neg hb] at h1
        exact .inl h1
    · exact .inr ⟨e', by simp [he'], h1⟩
theorem Masks.snoc {ops : Array Oper} {acc : List Nat} {o : Oper} (h : Masks ops acc) (ho : ops[acc.length]? = some o) : Masks ops (acc ++ [maskOf o acc]) := by
  intro y x hd
  unfold depOf at hd
  by_cases hy : y < acc.length
  · rw [List.getD_eq_getElem?_getD, List.getElem?_append_left hy, ← List.getD_eq_getElem?_getD] at hd
    exact h y x hd
  · by_cases hy2 : y = acc.length
    · subst hy2
      rw [List.getD_eq_getElem?_getD, List.getElem?_append_right (Nat.le_refl _), Nat.sub_self] at hd
      simp only [List.getElem?_cons_zero, Option.getD_some] at hd
      rcases maskOf_bit _ _ hd with h1 | ⟨e, he, hb, h1⟩
      · simp at h1
      · rcases h1 with h1 | h1
        · refine ⟨1, ?_⟩
          simp only [hangs, ho]
          exact Array.any_eq_true'.2 ⟨e, by simpa using he, by simp [hb, h1]⟩
        · obtain ⟨n, hn⟩ := h e.on x h1
          refine ⟨n + 1, ?_⟩
          simp only [hangs, ho]
          exact Array.any_eq_true'.2 ⟨e, by simpa using he, by simp [hb, hn]⟩
    · rw [List.getD_eq_getElem?_getD, List.getElem?_eq_none (by simp; omega)] at hd
      simp at hd
theorem withMasks_go {ops : Array Oper} {k : List Nat → Bool} : ∀ (l : List Oper) (acc : List Nat), ops.toList.drop acc.length = l → Masks ops acc → withMasks l acc k = true → ∃ ms, Masks ops ms ∧ k ms = true
  | [], acc, _, hm, h => ⟨acc, hm, h⟩
  | o :: l, acc, hd, hm, h => by
    rw [withMasks, forced_eq] at h
    have ho : ops[acc.length]? = some o := by
      have : (ops.toList.drop acc.length)[0]? = some o := by rw [hd]; rfl
      simpa using this
    have hd' : ops.toList.drop (acc ++ [maskOf o acc]).length = l := by
      rw [List.length_append, List.length_singleton, ← List.drop_drop, hd]; rfl
    exact withMasks_go l _ hd' (hm.snoc ho) h
theorem withMasks_spec {ops : Array Oper} {k : List Nat → Bool} (h : withMasks ops.toList [] k = true) : ∃ ms, Masks ops ms ∧ k ms = true :=
  withMasks_go ops.toList [] rfl (fun y x hd => by simp [depOf] at hd) h

/-- May this list be walked in the place of every order? -/
def orderOk (ops : Array Oper) (ms : List Nat) (kind : Nat → Nat) : List Nat → Bool
  | [] => true
  | x :: rest => rest.all (fun y => y != x && (depOf ms y x || (swapOk kind x y && match ops[x]?, ops[y]? with | some ox, some oy => ox.apart ops oy | _, _ => true))) &&
      (match ops[x]? with | some o => o.after.all fun e => !Region.binds .any e || (decide (e.on < ops.size) && !(rest.contains e.on || e.on == x)) | none => false) && orderOk ops ms kind rest

def allThere (ops : Array Oper) (l : List Nat) : Bool := (List.range ops.size).all (l.contains ·)

theorem hangs_listed {listed : Array Bool} (hcl : ∀ z o, listed.getD z false = true → ops[z]? = some o → ∀ e ∈ o.after, Region.binds .any e = true → listed.getD e.on false = true) :
    ∀ n y x o, ops[y]? = some o → (∀ e ∈ o.after, Region.binds .any e = true → listed.getD e.on false = true) → hangs ops n y x = true → listed.getD x false = true
  | 0, _, _, _, _, _, h => by simp [hangs] at h
  | n + 1, y, x, o, ho, hall, h => by
    simp only [hangs, ho] at h
    obtain ⟨e, he, hb⟩ := Array.any_eq_true'.1 h
    simp only [Bool.and_eq_true, Bool.or_eq_true, beq_iff_eq] at hb
    have hl := hall e he hb.1
    rcases hb.2 with rfl | hh
    · exact hl
    · cases hoe : ops[e.on]? with
      | none => unfold hangs at hh; cases n <;> simp [hoe] at hh
      | some oe => exact hangs_listed hcl n e.on x oe hoe (hcl e.on oe hl hoe) hh

theorem orderOk_split {ms : List Nat} {i : Nat} {l2 : List Nat} : ∀ l1 : List Nat, orderOk ops ms kind (l1 ++ i :: l2) = true →
    orderOk ops ms kind (l1 ++ l2) = true ∧ (∀ x ∈ l1, x ≠ i ∧ (depOf ms i x = true ∨ (swapOk kind x i = true ∧ ∀ ox oi, ops[x]? = some ox → ops[i]? = some oi → ox.apart ops oi = true))) ∧ (∀ x ∈ l2, x ≠ i)
  | [], h => by
    simp only [List.nil_append, orderOk, Bool.and_eq_true, List.all_eq_true] at h ⊢
    refine ⟨h.2, (fun x hx => by cases hx), fun x hx => ?_⟩
    have := h.1.1 x hx
    simp only [Bool.and_eq_true, bne_iff_ne, ne_eq] at this
    exact this.1
  | y :: l1, h => by
    simp only [List.cons_append, orderOk, Bool.and_eq_true, List.all_eq_true] at h ⊢
    obtain ⟨⟨h1, h2⟩, h3⟩ := h
    obtain ⟨g1, g2, g3⟩ := orderOk_split l1 h3
    refine ⟨⟨⟨fun z hz => h1 z ?_, ?_⟩, g1⟩, ?_, g3⟩
    · rcases List.mem_append.1 hz with hz | hz
      · exact List.mem_append_left _ hz
      · exact List.mem_append_right _ (List.mem_cons_of_mem _ hz)
    · cases ho : ops[y]? with
      | none => simp [ho] at h2
      | some o =>
        simp only [ho] at h2 ⊢
        rw [Array.all_eq_true_iff_forall_mem] at h2 ⊢
        intro e he
        have := h2 e he
        simp only [Bool.or_eq_true, Bool.and_eq_true, Bool.not_eq_true', Bool.or_eq_false_iff] at this ⊢
        rcases this with h | ⟨hl, h, h'⟩
        · exact .inl h
        · refine .inr ⟨hl, ?_, h'⟩
          simp at h ⊢
          exact ⟨h.1, h.2.2⟩
    · intro x hx
      rcases List.mem_cons.1 hx with rfl | hx
      · have := h1 i (by simp)
        simp only [Bool.and_eq_true, Bool.or_eq_true, bne_iff_ne, ne_eq, Bool.not_eq_true'] at this
        refine ⟨fun e => this.1 e.symm, this.2.imp id fun h => ⟨h.1, fun ox oi hox hoi => ?_⟩⟩
        have h' := h.2
        simp only [hox, hoi] at h'
        exact h'
      · exact g2 x hx

theorem any_of_seq {ms : List Nat} (hms : Masks ops ms) (hsel : ∀ (j : Nat) (o : Oper) cs b, ops[j]? = some o → o.op ≠ .select cs b) :
    ∀ (fuel : Nat) (listed : Array Bool) (l : List Nat) (a : Act) (w : World), l.length = fuel → listed.size = ops.size → (∀ j, j < ops.size → (listed.getD j true = false ↔ j ∈ l)) → (∀ j ∈ l, j < ops.size) → orderOk ops ms kind l = true →
      (∀ z o, listed.getD z false = true → ops[z]? = some o → ∀ e ∈ o.after, Region.binds .any e = true → listed.getD e.on false = true) →
      Seq_ P ops S kind Q l a w → wpAny P .any ops Q fuel listed a w := by
  intro fuel
  induction fuel with
  | zero =>
    intro listed l a w hl hsz hmem hlt hok hcl h
    obtain rfl : l = [] := List.length_eq_zero_iff.1 hl
    refine ⟨?_, h⟩
    rw [List.eq_nil_iff_forall_not_mem]
    intro j hj
    obtain ⟨hun, o, ho, _⟩ := mem_ready.1 hj
    have := (hmem j (Array.getElem?_eq_some_iff.1 ho).1).1 hun
    cases this
  | succ fuel ih =>
    intro listed l a w hl hsz hmem hlt hok hcl h
    have unl : ∀ j, j < ops.size → j ∉ l → listed.getD j false = true := fun j hj hnot => by
      have h1 : ¬ listed.getD j true = false := fun e => hnot ((hmem j hj).1 e)
      have hlt' : j < listed.size := by omega
      simp [hlt'] at h1 ⊢
      exact h1
    refine ⟨fun hr => ?_, fun i hi => ?_⟩
    · cases l with
      | nil => simp at hl
      | cons x rest =>
        exfalso
        have hx : x ∈ Region.ready .any ops listed := by
          rw [mem_ready]
          simp only [orderOk, Bool.and_eq_true] at hok
          have h2 := hok.1.2
          cases ho : ops[x]? with
          | none => simp [ho] at h2
          | some o =>
            simp only [ho] at h2
            refine ⟨(hmem x (hlt x (by simp))).2 (by simp), o, rfl, fun e he hb => ?_⟩
            have h3 := Array.all_eq_true_iff_forall_mem.1 h2 e he
            simp only [hb, Bool.not_true, Bool.false_or, Bool.and_eq_true, decide_eq_true_eq, Bool.not_eq_true', Bool.or_eq_false_iff] at h3
            refine unl e.on h3.1 (fun hm => ?_)
            obtain ⟨_, h4, h5⟩ := h3
            rcases List.mem_cons.1 hm with e1 | e1
            · simp [e1] at h5
            · simp at h4; exact h4 e1
        rw [hr] at hx
        cases hx
    · obtain ⟨hun, oi, hoi, hall⟩ := mem_ready.1 hi
      have hil : i < ops.size := (Array.getElem?_eq_some_iff.1 hoi).1
      have him : i ∈ l := (hmem i hil).1 hun
      obtain ⟨l1, l2, rfl⟩ := List.append_of_mem him
      obtain ⟨k1, k2, k3⟩ := orderOk_split l1 hok
      have hp : Next_ P ops S kind i (Seq_ P ops S kind Q (l1 ++ l2)) a w := by
        refine Seq_.pull hsel l1 a w (fun x hx => ?_) h
        obtain ⟨hne, hh | hh⟩ := k2 x hx
        · exfalso
          obtain ⟨nh, hh⟩ := hms _ _ hh
          have := hangs_listed hcl nh i x oi hoi hall hh
          have hxl := (hmem x (hlt x (by simp [hx]))).2 (by simp [hx])
          have : listed.getD x true = true := by
            have hxs : x < listed.size := by rw [hsz]; exact hlt x (by simp [hx])
            simp [hxs] at this ⊢; exact this
          rw [this] at hxl; cases hxl
        · exact hh
      refine wpOp_mono (fun a' w' h' => ih _ (l1 ++ l2) a' w' (by simp at hl ⊢; omega) (by simp [hsz]) ?_ (fun j hj => hlt j (by simp at hj ⊢; rcases hj with h | h <;> simp [h])) k1 ?_ h') hp.wpOp
      · intro j hj
        by_cases hji : i = j
        · subst hji
          have : i < listed.size := by omega
          simp [this]
          exact ⟨fun h => (k2 i h).1 rfl, fun h => k3 i h rfl⟩
        · rw [getD_set_ne true hji, hmem j hj]
          simp
          constructor
          · rintro (h | h | h)
            · exact .inl h
            · exact absurd h.symm hji
            · exact .inr h
          · rintro (h | h)
            · exact .inl h
            · exact .inr (.inr h)
      · intro z o hz ho e he hb
        by_cases hzi : i = z
        · subst hzi
          rw [hoi] at ho; cases ho
          exact getD_set_true (hall e he hb)
        · rw [getD_set_ne false hzi] at hz
          exact getD_set_true (hcl z o hz ho e he hb)

/-- THE LAW. -/
theorem wp_region_seq {id : Nat} {a : Act} {w : World} (kind : Nat → Nat) (S : World → Prop) (l : List Nat) (hm : P.follows .mixedOrders = true) (hs : Region.noSelect ops = true) (hn : l.length = ops.size) (hall : allThere ops l = true)
    (hlt : l.all (· < ops.size) = true) (hok : withMasks ops.toList [] (fun ms => orderOk ops ms kind l) = true) (h : Seq_ P ops S kind Q l a w.drew) : (Code.region id ops true).wp P Q a w := by
  refine wp_region_any hm ?_
  rw [← hn]
  obtain ⟨ms, hms, hok⟩ := withMasks_spec hok
  refine any_of_seq hms (Region.noSelect_spec hs) _ _ l a _ rfl (by simp [hn]) (fun j hj => ?_) (fun j hj => by have := List.all_eq_true.1 hlt j hj; simpa using this) hok (fun z o hz => ?_) h
  · simp [hn, hj]
    have := List.all_eq_true.1 hall j (by simp [hj])
    simpa using this
  · exfalso
    rw [Array.getD_eq_getD_getElem?] at hz
    by_cases hzl : z < l.length <;> simp [hzl] at hz

end

/-- The kinds as the operations' forms tell them; 'quiet': the functions whose contract leaves the world as it was. -/
def kindOf (quiet : List Nat) (o : Oper) : Nat :=
  match o.op with
  | .load .. => 2
  | .store .. | .alloc .. | .box .. | .makeSlice .. | .buildSlice .. | .slice .. | .makeFunc .. => 4
  | .call c => match c.callee with
    | .builtin .append | .builtin .copy => 4
    | .builtin _ => 0
    | .value (.func f) => if quiet.contains f then 2 else 4
    | _ => 4
  | _ => 0
def kinds (ops : Array Oper) (quiet : List Nat) (i : Nat) : Nat := match ops[i]? with | some o => kindOf quiet o | none => 4

section
variable {P : Program} {ops : Array Oper} {Q : Exit → Act → World → Prop} {quiet : List Nat}

/-- One operation, then K. -/
def One (P : Program) (ops : Array Oper) (k : Nat) (o : Oper) (K : Act → World → Prop) (a : Act) (w : World) : Prop :=
  if Region.wanted o (yielded ops a.tmps) then
    if k ≤ 2 then ∃ v, Still P o a w v ∧ (k = 0 → Plain P o a v) ∧ K (a.put o.dst v) w
    else o.wp P a w K NoQ
  else K (a.put o.dst undef) w

/-- The region's operations, one behind the other. -/
def Ones (P : Program) (ops : Array Oper) (quiet : List Nat) (Q : Exit → Act → World → Prop) : List Oper → Act → World → Prop
  | [], a, w => Q .normal a w
  | o :: rest, a, w => One P ops (kindOf quiet o) o (Ones P ops quiet Q rest) a w

theorem seq_of_ones : ∀ (l : List Nat) (a : Act) (w : World), (∀ i ∈ l, i < ops.size) → Ones P ops quiet Q (l.filterMap (ops[·]?)) a w → Seq_ P ops (fun _ => True) (kinds ops quiet) Q l a w
  | [], a, w, _, h => h
  | i :: l, a, w, hl, h => by
    have hi : i < ops.size := hl i (by simp)
    have ho : ops[i]? = some ops[i] := Array.getElem?_eq_getElem hi
    have ih := fun a w => seq_of_ones l a w (fun j hj => hl j (by simp [hj]))
    rw [List.filterMap_cons, ho] at h
    have h' : One P ops (kindOf quiet ops[i]) ops[i] (Ones P ops quiet Q (l.filterMap (ops[·]?))) a w := h
    show Next_ P ops (fun _ => True) (kinds ops quiet) i (Seq_ P ops (fun _ => True) (kinds ops quiet) Q l) a w
    have hk : kinds ops quiet i = kindOf quiet ops[i] := by unfold kinds; rw [ho]
    unfold Next_
    unfold One at h'
    simp only [ho, hk]
    split
    · rename_i hw
      simp only [hw, if_true] at h'
      split
      · rename_i hk2
        simp only [hk2, if_true] at h'
        obtain ⟨v, h1, h2, h3⟩ := h'
        by_cases hk1 : kindOf quiet ops[i] = 1
        · exfalso
          revert hk1
          unfold kindOf
          split <;> (try split) <;> (try split) <;> simp
        · exact ⟨v, h1, h2, fun h => absurd h hk1, ih _ _ h3⟩
      · rename_i hk2
        simp only [hk2, if_false] at h'
        exact Oper.wp_mono (fun a w h => ⟨fun _ => trivial, ih _ _ h⟩) h'
    · rename_i hw
      simp only [hw] at h'
      exact ih _ _ h'

theorem range_pick {α : Type} : ∀ (pre l : List α), (List.range' pre.length l.length).filterMap (fun i => (pre ++ l)[i]?) = l
  | pre, [] => by simp
  | pre, x :: l => by
    have ih := range_pick (pre ++ [x]) l
    simp only [List.length_append, List.length_cons, List.length_nil, List.append_assoc, List.cons_append, List.nil_append, Nat.zero_add] at ih
    rw [List.length_cons, List.range'_succ, List.filterMap_cons]
    simp [ih]
/-- THE LAW, in the order of the text. -/
theorem wp_region_text {id : Nat} {l : List Oper} {a : Act} {w : World} (quiet : List Nat) (hm : P.follows .mixedOrders = true) (hs : Region.noSelect l.toArray = true) (hok : withMasks l [] (fun ms => orderOk l.toArray ms (kinds l.toArray quiet) (List.range l.length)) = true)
    (h : Ones P l.toArray quiet Q l a w.drew) : (Code.region id l.toArray true).wp P Q a w := by
  refine wp_region_seq (kinds l.toArray quiet) (fun _ => True) (List.range l.length) hm hs (by simp) ?_ ?_ hok ?_
  · unfold allThere
    simp
  · simp
  · refine seq_of_ones _ _ _ (by simp) ?_
    have e : (List.range l.length).filterMap (l.toArray[·]?) = l := by
      have := range_pick [] l
      simpa [List.range_eq_range'] using this
    rw [e]; exact h
/-- THE LAW, in another order. -/
theorem wp_region_by {id : Nat} {a : Act} {w : World} (quiet : List Nat) (l : List Nat) (hm : P.follows .mixedOrders = true) (hs : Region.noSelect ops = true) (hn : l.length = ops.size) (hall : allThere ops l = true)
    (hlt : l.all (· < ops.size) = true) (hok : withMasks ops.toList [] (fun ms => orderOk ops ms (kinds ops quiet) l) = true)
    (h : Ones P ops quiet Q (l.filterMap (ops[·]?)) a w.drew) : (Code.region id ops true).wp P Q a w :=
  wp_region_seq (kinds ops quiet) (fun _ => True) l hm hs hn hall hlt hok (seq_of_ones _ _ _ (fun i hi => by have := List.all_eq_true.1 hlt i hi; simpa using this) h)

/-! ### Steps -/
theorem ones_nil {a : Act} {w : World} (h : Q .normal a w) : Ones P ops quiet Q [] a w := h
theorem ones_free {rest : List Oper} {o : Oper} {v : Value} {a : Act} {w : World} (hk : kindOf quiet o = 0) (hg : Region.wanted o (yielded ops a.tmps) = true)
    (hr : ∀ w', (execOp a.eval o).run P w' = .ok (.value v) w') (h : Ones P ops quiet Q rest (a.put o.dst v) w) : Ones P ops quiet Q (o :: rest) a w := by
  unfold Ones One
  simp only [hg, if_true]
  rw [if_pos (by omega)]
  exact ⟨v, Plain.still hr w, fun _ => hr, h⟩
theorem ones_here {rest : List Oper} {o : Oper} {v : Value} {a : Act} {w : World} (hk : kindOf quiet o = 2) (hg : Region.wanted o (yielded ops a.tmps) = true)
    (hr : (execOp a.eval o).run P w = .ok (.value v) w) (h : Ones P ops quiet Q rest (a.put o.dst v) w) : Ones P ops quiet Q (o :: rest) a w := by
  unfold Ones One
  have hs : Still P o a w v := by unfold Still; rw [hr]; exact ⟨rfl, rfl⟩
  simp only [hg, if_true]
  rw [if_pos (by omega)]
  exact ⟨v, hs, fun h1 => by omega, h⟩
/-- What the operation calls. -/
def CallOf (P : Program) (o : Oper) (a : Act) (w : World) (C : FuncId → Array Value → World → Prop) : Prop :=
  match (execOp a.eval o).run P w with
  | .ok (.enter f args) w' => C f args w'
  | _ => False
theorem ones_call {rest : List Oper} {o : Oper} {v : Value} {a : Act} {w : World} (hk : kindOf quiet o = 2) (hg : Region.wanted o (yielded ops a.tmps) = true)
    (hr : CallOf P o a w fun f args w0 => Calls P f args w0 fun e w' => e = .returned v ∧ w = w') (h : Ones P ops quiet Q rest (a.put o.dst v) w) : Ones P ops quiet Q (o :: rest) a w := by
  unfold Ones One
  have hs : Still P o a w v := by
    unfold Still
    unfold CallOf at hr
    split at hr
    · rename_i f args w' he
      rw [he]
      exact hr.mono fun e w' ⟨h1, h2⟩ => ⟨h1, h2.symm⟩
    · exact hr.elim
  simp only [hg, if_true]
  rw [if_pos (by omega)]
  exact ⟨v, hs, fun h1 => by omega, h⟩
theorem ones_row {rest : List Oper} {o : Oper} {a : Act} {w : World} (ty : TypeId) (x : Operand) (hk : kindOf quiet o = 2) (hg : Region.wanted o (yielded ops a.tmps) = true) (ho : o.op = .load ty x)
    {g : Nat} {t : TypeId} {cs : Array Value} {d : TypeDesc} (hx : a.eval x = .pointer (some ⟨g, 0, none⟩)) (hA : At w g t cs)
    (hu : P.underlying ty = some d) (hd : (match d with | .struct _ | .array _ _ => true | _ => false) = true) (hi : (P.info? ty).map (·.size) = some cs.size)
    (h : Ones P ops quiet Q rest (a.put o.dst (.agg cs)) w) : Ones P ops quiet Q (o :: rest) a w := by
  refine ones_here hk hg ?_ h
  unfold execOp
  simp only [ho, hx, Instr.loadAt, Instr.sureAddr, Sem.run_bind, Sem.run_pure, Result.andThen_ok, run_loadVar_row w g t ty cs (0, 0) d hA hu hd hi]
theorem ones_skip {rest : List Oper} {o : Oper} {a : Act} {w : World} (hg : Region.wanted o (yielded ops a.tmps) = false)
    (h : Ones P ops quiet Q rest (a.put o.dst undef) w) : Ones P ops quiet Q (o :: rest) a w := by
  unfold Ones One
  simp only [hg]
  exact h
theorem ones_eff {rest : List Oper} {o : Oper} {a : Act} {w : World} (hk : kindOf quiet o = 4) (hg : Region.wanted o (yielded ops a.tmps) = true)
    (h : ∀ K : Act → World → Prop, (∀ a' w', Ones P ops quiet Q rest a' w' → K a' w') → o.wp P a w K NoQ) : Ones P ops quiet Q (o :: rest) a w := by
  unfold Ones One
  simp only [hg, if_true]
  rw [if_neg (by omega)]
  exact h _ fun a' w' h' => h'
end

/-! ### Several orders: where two operations that change the world may come in either order, each order is walked. -/
section
variable {P : Program} {ops : Array Oper} {Q : Exit → Act → World → Prop} {S : World → Prop} {kind : Nat → Nat}

/-- A list of operations that an order may be. -/
def Lin (ops : Array Oper) : List Nat → Array Bool → Prop
  | [], listed => Region.ready .any ops listed = []
  | i :: l, listed => i ∈ Region.ready .any ops listed ∧ Lin ops l (listed.setIfInBounds i true)

theorem Lin.unlisted : ∀ (π : List Nat) (listed : Array Bool), Lin ops π listed → ∀ j ∈ π, listed.getD j true = false
  | [], _, _, j, hj => by cases hj
  | i :: π, listed, h, j, hj => by
    rcases List.mem_cons.1 hj with rfl | hj
    · exact (mem_ready.1 h.1).1
    · have := Lin.unlisted π _ h.2 j hj
      by_cases hij : i = j
      · subst hij
        exact (mem_ready.1 h.1).1
      · rwa [getD_set_ne true hij] at this
theorem Lin.small : ∀ (π : List Nat) (listed : Array Bool), Lin ops π listed → ∀ j ∈ π, j < ops.size
  | [], _, _, j, hj => by cases hj
  | i :: π, listed, h, j, hj => by
    rcases List.mem_cons.1 hj with rfl | hj
    · obtain ⟨_, o, ho, _⟩ := mem_ready.1 h.1
      exact (Array.getElem?_eq_some_iff.1 ho).1
    · exact Lin.small π _ h.2 j hj

/-- What each hangs on at once stands ahead of it. -/
def depsOk (ops : Array Oper) : List Nat → Bool
  | [] => true
  | x :: rest => (match ops[x]? with | some o => o.after.all fun e => !Region.binds .any e || (decide (e.on < ops.size) && !(rest.contains e.on || e.on == x)) | none => false) && rest.all (· != x) && depsOk ops rest
theorem depsOk_split {i : Nat} {l2 : List Nat} : ∀ l1 : List Nat, depsOk ops (l1 ++ i :: l2) = true → depsOk ops (l1 ++ l2) = true ∧ (∀ x ∈ l1 ++ l2, x ≠ i)
  | [], h => by
    simp only [List.nil_append, depsOk, Bool.and_eq_true, List.all_eq_true] at h ⊢
    exact ⟨h.2, fun x hx => by simpa using h.1.2 x hx⟩
  | y :: l1, h => by
    simp only [List.cons_append, depsOk, Bool.and_eq_true, List.all_eq_true] at h ⊢
    obtain ⟨⟨h2, h1⟩, h3⟩ := h
    obtain ⟨g1, g2⟩ := depsOk_split l1 h3
    refine ⟨⟨⟨?_, fun z hz => h1 z ?_⟩, g1⟩, fun x hx => ?_⟩
    · cases ho : ops[y]? with
      | none => simp [ho] at h2
      | some o =>
        simp only [ho] at h2 ⊢
        rw [Array.all_eq_true_iff_forall_mem] at h2 ⊢
        intro e he
        have := h2 e he
        simp only [Bool.or_eq_true, Bool.and_eq_true, Bool.not_eq_true', Bool.or_eq_false_iff] at this ⊢
        rcases this with h | ⟨hl, h, h'⟩
        · exact .inl h
        · refine .inr ⟨hl, ?_, h'⟩
          simp at h ⊢
          exact ⟨h.1, h.2.2⟩
    · rcases List.mem_append.1 hz with hz | hz
      · exact List.mem_append_left _ hz
      · exact List.mem_append_right _ (List.mem_cons_of_mem _ hz)
    · rcases List.mem_cons.1 hx with rfl | hx
      · have := h1 i (by simp)
        intro e
        subst e
        simp at this
      · exact g2 x hx
theorem ready_head {listed : Array Bool} {x : Nat} {l : List Nat} (hsz : listed.size = ops.size) (hmem : ∀ j, j < ops.size → (listed.getD j true = false ↔ j ∈ x :: l)) (hx : x < ops.size) (h : depsOk ops (x :: l) = true) : x ∈ Region.ready .any ops listed := by
  rw [mem_ready]
  simp only [depsOk, Bool.and_eq_true] at h
  have h2 := h.1.1
  cases ho : ops[x]? with
  | none => simp [ho] at h2
  | some o =>
    simp only [ho] at h2
    refine ⟨(hmem x hx).2 (by simp), o, rfl, fun e he hb => ?_⟩
    have h3 := Array.all_eq_true_iff_forall_mem.1 h2 e he
    simp only [hb, Bool.not_true, Bool.false_or, Bool.and_eq_true, decide_eq_true_eq, Bool.not_eq_true', Bool.or_eq_false_iff] at h3
    obtain ⟨h4, h5, h6⟩ := h3
    have hnot : e.on ∉ x :: l := fun hm => by
      rcases List.mem_cons.1 hm with e1 | e1
      · simp [e1] at h6
      · simp at h5; exact h5 e1
    have h1 : ¬ listed.getD e.on true = false := fun e' => hnot ((hmem _ h4).1 e')
    have hlt' : e.on < listed.size := by omega
    simp [hlt'] at h1 ⊢
    exact h1
theorem mem_erased {listed : Array Bool} {i : Nat} {l1 l2 : List Nat} (hsz : listed.size = ops.size) (hil : i < ops.size) (hmem : ∀ j, j < ops.size → (listed.getD j true = false ↔ j ∈ l1 ++ i :: l2)) (hne : ∀ x ∈ l1 ++ l2, x ≠ i) :
    ∀ j, j < ops.size → ((listed.setIfInBounds i true).getD j true = false ↔ j ∈ l1 ++ l2) := by
  intro j hj
  by_cases hji : i = j
  · subst hji
    have : i < listed.size := by omega
    simp [this]
    exact ⟨fun h => hne i (by simp [h]) rfl, fun h => hne i (by simp [h]) rfl⟩
  · rw [getD_set_ne true hji, hmem j hj]
    simp
    constructor
    · rintro (h | h | h)
      · exact .inl h
      · exact absurd h.symm hji
      · exact .inr h
    · rintro (h | h)
      · exact .inl h
      · exact .inr (.inr h)
theorem Lin.all_ : ∀ (π : List Nat) (listed : Array Bool) (l : List Nat), Lin ops π listed → listed.size = ops.size → (∀ j, j < ops.size → (listed.getD j true = false ↔ j ∈ l)) → (∀ j ∈ l, j < ops.size) → depsOk ops l = true → ∀ j ∈ l, j ∈ π
  | [], listed, l, h, hsz, hmem, hlt, hd, j, hj => by
    cases l with
    | nil => cases hj
    | cons x l =>
      have := ready_head hsz hmem (hlt x (by simp)) hd
      rw [show Region.ready .any ops listed = [] from h] at this
      cases this
  | i :: π, listed, l, h, hsz, hmem, hlt, hd, j, hj => by
    by_cases hji : j = i
    · simp [hji]
    · have hil : i < ops.size := Lin.small _ _ h i (by simp)
      have him : i ∈ l := (hmem i hil).1 (mem_ready.1 h.1).1
      obtain ⟨l1, l2, rfl⟩ := List.append_of_mem him
      obtain ⟨k1, k2⟩ := depsOk_split l1 hd
      refine List.mem_cons_of_mem _ (Lin.all_ π _ (l1 ++ l2) h.2 (by simp [hsz]) (mem_erased hsz hil hmem k2) (fun j hj => hlt j (by simp at hj ⊢; rcases hj with h | h <;> simp [h])) k1 j ?_)
      simp at hj ⊢
      rcases hj with h | h | h
      · exact .inl h
      · exact absurd h hji
      · exact .inr h
theorem lin_linearise : ∀ (fuel t : Nat) (listed : Array Bool) (l : List Nat), l.length = fuel → listed.size = ops.size → (∀ j, j < ops.size → (listed.getD j true = false ↔ j ∈ l)) → (∀ j ∈ l, j < ops.size) → depsOk ops l = true → Lin ops (Region.linearise.go .any ops fuel t listed []) listed
  | 0, t, listed, l, hl, hsz, hmem, hlt, hd => by
    obtain rfl : l = [] := List.length_eq_zero_iff.1 hl
    show Region.ready .any ops listed = []
    rw [List.eq_nil_iff_forall_not_mem]
    intro j hj
    obtain ⟨hun, o, ho, _⟩ := mem_ready.1 hj
    have := (hmem j (Array.getElem?_eq_some_iff.1 ho).1).1 hun
    cases this
  | fuel + 1, t, listed, l, hl, hsz, hmem, hlt, hd => by
    simp only [Region.linearise.go]
    change Lin ops (match (Region.ready .any ops listed)[t % (Region.ready .any ops listed).length]? with
      | some i => Region.linearise.go .any ops fuel (t / (Region.ready .any ops listed).length) (listed.setIfInBounds i true) [i]
      | none => [].reverse) listed
    cases hi : (Region.ready .any ops listed)[t % (Region.ready .any ops listed).length]? with
    | none =>
      show Region.ready .any ops listed = []
      cases hr : Region.ready .any ops listed with
      | nil => rfl
      | cons x xs =>
        rw [hr] at hi
        have hlt : t % (x :: xs).length < (x :: xs).length := Nat.mod_lt _ (by simp)
        simp at hi
        simp at hlt
        omega
    | some i =>
      simp only []
      rw [linearise_go_acc, List.reverse_singleton, List.singleton_append]
      have hir : i ∈ Region.ready .any ops listed := List.mem_of_getElem? hi
      obtain ⟨hun, o, ho, _⟩ := mem_ready.1 hir
      have hil : i < ops.size := (Array.getElem?_eq_some_iff.1 ho).1
      have him : i ∈ l := (hmem i hil).1 hun
      obtain ⟨l1, l2, rfl⟩ := List.append_of_mem him
      obtain ⟨k1, k2⟩ := depsOk_split l1 hd
      exact ⟨hir, lin_linearise fuel _ _ (l1 ++ l2) (by simp at hl ⊢; omega) (by simp [hsz]) (mem_erased hsz hil hmem k2) (fun j hj => hlt j (by simp at hj ⊢; rcases hj with h | h <;> simp [h])) k1⟩

def ahead (l : List Nat) (b : Nat × Nat) : Bool := decide (l.idxOf b.1 < l.idxOf b.2)

def covers : List (Nat × Nat) → List (List Nat) → Bool
  | [], ls => !ls.isEmpty
  | b :: B, ls => covers B (ls.filter (ahead · b)) && covers B (ls.filter (!ahead · b))
theorem covers_spec (p : Nat × Nat → Bool) : ∀ (B : List (Nat × Nat)) (ls : List (List Nat)), covers B ls = true → ∃ l ∈ ls, ∀ b ∈ B, ahead l b = p b
  | [], ls, h => by
    cases ls with
    | nil => simp [covers] at h
    | cons l ls => exact ⟨l, by simp, by simp⟩
  | b :: B, ls, h => by
    simp only [covers, Bool.and_eq_true] at h
    cases hb : p b
    · obtain ⟨l, hl, hB⟩ := covers_spec p B _ h.2
      have := List.mem_filter.1 hl
      exact ⟨l, this.1, fun c hc => by
        rcases List.mem_cons.1 hc with rfl | hc
        · rw [hb]; simpa using this.2
        · exact hB c hc⟩
    · obtain ⟨l, hl, hB⟩ := covers_spec p B _ h.1
      have := List.mem_filter.1 hl
      exact ⟨l, this.1, fun c hc => by
        rcases List.mem_cons.1 hc with rfl | hc
        · rw [hb]; simpa using this.2
        · exact hB c hc⟩

/-- Two operations of a list, x ahead of y: y hangs on x; or they may change places; or theirs is a pair that is told apart. -/
def pairOk (ops : Array Oper) (ms : List Nat) (kind : Nat → Nat) (B : List (Nat × Nat)) (x y : Nat) : Bool :=
  depOf ms y x || B.contains (x, y) || B.contains (y, x) || (swapOk kind x y && match ops[x]?, ops[y]? with | some ox, some oy => ox.apart ops oy | _, _ => true)
def orderOkB (ops : Array Oper) (ms : List Nat) (kind : Nat → Nat) (B : List (Nat × Nat)) : List Nat → Bool
  | [] => true
  | x :: rest => rest.all (fun y => y != x && pairOk ops ms kind B x y) && orderOkB ops ms kind B rest

theorem orderOkB_split {ms : List Nat} {B : List (Nat × Nat)} {i : Nat} {l2 : List Nat} : ∀ l1 : List Nat, orderOkB ops ms kind B (l1 ++ i :: l2) = true →
    orderOkB ops ms kind B (l1 ++ l2) = true ∧ (∀ x ∈ l1, x ≠ i ∧ pairOk ops ms kind B x i = true) ∧ (∀ x ∈ l2, x ≠ i)
  | [], h => by
    simp only [List.nil_append, orderOkB, Bool.and_eq_true, List.all_eq_true] at h ⊢
    refine ⟨h.2, (fun x hx => by cases hx), fun x hx => ?_⟩
    have := (h.1 x hx).1
    simpa using this
  | y :: l1, h => by
    simp only [List.cons_append, orderOkB, Bool.and_eq_true, List.all_eq_true] at h ⊢
    obtain ⟨h1, h3⟩ := h
    obtain ⟨g1, g2, g3⟩ := orderOkB_split l1 h3
    refine ⟨⟨fun z hz => h1 z ?_, g1⟩, ?_, g3⟩
    · rcases List.mem_append.1 hz with hz | hz
      · exact List.mem_append_left _ hz
      · exact List.mem_append_right _ (List.mem_cons_of_mem _ hz)
    · intro x hx
      rcases List.mem_cons.1 hx with rfl | hx
      · have := h1 i (by simp)
        refine ⟨fun e => ?_, this.2⟩
        have h4 := this.1
        simp [e] at h4
      · exact g2 x hx

theorem idxOf_head_lt {i x : Nat} {l : List Nat} (h : x ≠ i) : (i :: l).idxOf i < (i :: l).idxOf x := by
  have hne : (i == x) = false := by simpa using fun e : i = x => h e.symm
  simp [List.idxOf_cons, hne]

theorem idxOf_split_lt {i x : Nat} {l1 l2 : List Nat} (hx : x ∈ l1) (hne : x ≠ i) (hi : ∀ y ∈ l1, y ≠ i) : (l1 ++ i :: l2).idxOf x < (l1 ++ i :: l2).idxOf i := by
  have hi' : i ∉ l1 := fun h => hi i h rfl
  rw [List.idxOf_append, if_pos hx, List.idxOf_append, if_neg hi']
  have := List.idxOf_lt_length_of_mem hx
  omega

theorem ahead_tail {i : Nat} {l : List Nat} {b : Nat × Nat} (h1 : b.1 ≠ i) (h2 : b.2 ≠ i) : ahead (i :: l) b = ahead l b := by
  have e1 : (i == b.1) = false := by simpa using fun e : i = b.1 => h1 e.symm
  have e2 : (i == b.2) = false := by simpa using fun e : i = b.2 => h2 e.symm
  simp [ahead, List.idxOf_cons, e1, e2]

theorem ahead_erase {i : Nat} {l1 l2 : List Nat} {b : Nat × Nat} (hi : ∀ y ∈ l1, y ≠ i) (h1 : b.1 ≠ i) (h2 : b.2 ≠ i) : ahead (l1 ++ i :: l2) b = ahead (l1 ++ l2) b := by
  have e1 : (i == b.1) = false := by simpa using fun e : i = b.1 => h1 e.symm
  have e2 : (i == b.2) = false := by simpa using fun e : i = b.2 => h2 e.symm
  unfold ahead
  rw [List.idxOf_append, List.idxOf_append, List.idxOf_append, List.idxOf_append, List.idxOf_cons, List.idxOf_cons, e1, e2]
  simp only [cond_false]
  by_cases m1 : b.1 ∈ l1 <;> by_cases m2 : b.2 ∈ l1 <;> simp only [m1, m2, if_true, if_false]
  · have := List.idxOf_lt_length_of_mem m1
    simp; omega
  · have := List.idxOf_lt_length_of_mem m2
    simp; omega
  · simp

theorem ops_of_seq {ms : List Nat} (hms : Masks ops ms) (hsel : ∀ (j : Nat) (o : Oper) cs b, ops[j]? = some o → o.op ≠ .select cs b) {B : List (Nat × Nat)} :
    ∀ (π : List Nat) (listed : Array Bool) (l : List Nat) (a : Act) (w : World), Lin ops π listed → listed.size = ops.size → (∀ j, j < ops.size → (listed.getD j true = false ↔ j ∈ l)) → (∀ j ∈ l, j < ops.size) → orderOkB ops ms kind B l = true →
      (∀ z o, listed.getD z false = true → ops[z]? = some o → ∀ e ∈ o.after, Region.binds .any e = true → listed.getD e.on false = true) →
      (∀ b ∈ B, b.1 ∈ l → b.2 ∈ l → ahead l b = ahead π b) → (∀ j ∈ l, j ∈ π) → (∀ j ∈ π, j ∈ l) →
      Seq_ P ops S kind Q l a w → wpOps P ops Q π a w
  | [], listed, l, a, w, hlin, hsz, hmem, hlt, hok, hcl, hB, hlπ, _, h => by
    obtain rfl : l = [] := by
      cases l with
      | nil => rfl
      | cons x l => exact absurd (hlπ x (by simp)) (by simp)
    exact h
  | i :: π, listed, l, a, w, hlin, hsz, hmem, hlt, hok, hcl, hB, hlπ, hπl, h => by
    obtain ⟨hready, hlin'⟩ := hlin
    obtain ⟨hun, oi, hoi, hall⟩ := mem_ready.1 hready
    have hil : i < ops.size := (Array.getElem?_eq_some_iff.1 hoi).1
    have him : i ∈ l := (hmem i hil).1 hun
    obtain ⟨l1, l2, rfl⟩ := List.append_of_mem him
    obtain ⟨k1, k2, k3⟩ := orderOkB_split l1 hok
    have hne1 : ∀ y ∈ l1, y ≠ i := fun y hy => (k2 y hy).1
    rw [wpOps_cons]
    have hp : Next_ P ops S kind i (Seq_ P ops S kind Q (l1 ++ l2)) a w := by
      refine Seq_.pull hsel l1 a w (fun x hx => ?_) h
      have hxl : x < ops.size := hlt x (by simp [hx])
      have hpair := (k2 x hx).2
      simp only [pairOk, Bool.or_eq_true, Bool.and_eq_true] at hpair
      have hord : ∀ b : Nat × Nat, b = (x, i) ∨ b = (i, x) → b ∉ B := fun b hb hbB => by
        have e := hB b hbB (by rcases hb with rfl | rfl <;> simp [hx]) (by rcases hb with rfl | rfl <;> simp [hx])
        have a1 := idxOf_split_lt (l2 := l2) hx (hne1 x hx) hne1
        have a2 := idxOf_head_lt (l := π) (hne1 x hx)
        rcases hb with rfl | rfl <;> simp [ahead] at e <;> omega
      rcases hpair with ((hh | hh) | hh) | hh
      · exfalso
        obtain ⟨nh, hh⟩ := hms _ _ hh
        have := hangs_listed hcl nh i x oi hoi hall hh
        have hxl' := (hmem x hxl).2 (by simp [hx])
        have : listed.getD x true = true := by
          have hxs : x < listed.size := by omega
          simp [hxs] at this ⊢; exact this
        rw [this] at hxl'; cases hxl'
      · exact absurd (by simpa using hh) (hord _ (.inl rfl))
      · exact absurd (by simpa using hh) (hord _ (.inr rfl))
      · refine ⟨hh.1, fun ox oi' hox hoi' => ?_⟩
        have h' := hh.2
        simp only [hox, hoi'] at h'
        exact h'
    have hmem' : ∀ j, j < ops.size → ((listed.setIfInBounds i true).getD j true = false ↔ j ∈ l1 ++ l2) := by
      intro j hj
      by_cases hji : i = j
      · subst hji
        have : i < listed.size := by omega
        simp [this]
        exact ⟨fun h => hne1 i h rfl, fun h => k3 i h rfl⟩
      · rw [getD_set_ne true hji, hmem j hj]
        simp
        constructor
        · rintro (h | h | h)
          · exact .inl h
          · exact absurd h.symm hji
          · exact .inr h
        · rintro (h | h)
          · exact .inl h
          · exact .inr (.inr h)
    have hni : ∀ j ∈ l1 ++ l2, j ≠ i := fun j hj => by
      rcases List.mem_append.1 hj with h | h
      · exact hne1 j h
      · exact k3 j h
    have hπi : i ∉ π := fun hin => by
      have := Lin.unlisted π _ hlin' i hin
      have hs : i < listed.size := by omega
      simp [hs] at this
    refine wpOp_mono (fun a' w' h' => ops_of_seq hms hsel π (listed.setIfInBounds i true) (l1 ++ l2) a' w' hlin' (by simp [hsz]) hmem' (fun j hj => hlt j (by simp at hj ⊢; rcases hj with h | h <;> simp [h])) k1 ?_ ?_ ?_ ?_ h') hp.wpOp
    · intro z o hz ho e he hb
      by_cases hzi : i = z
      · subst hzi
        rw [hoi] at ho; cases ho
        exact getD_set_true (hall e he hb)
      · rw [getD_set_ne false hzi] at hz
        exact getD_set_true (hcl z o hz ho e he hb)
    · intro b hb m1 m2
      have e := hB b hb (by simp at m1 ⊢; rcases m1 with h | h <;> simp [h]) (by simp at m2 ⊢; rcases m2 with h | h <;> simp [h])
      rw [ahead_erase hne1 (hni _ m1) (hni _ m2), ahead_tail (hni _ m1) (hni _ m2)] at e
      exact e
    · intro j hj
      have := hlπ j (by simp at hj ⊢; rcases hj with h | h <;> simp [h])
      rcases List.mem_cons.1 this with rfl | h
      · exact absurd rfl (hni _ hj)
      · exact h
    · intro j hj
      have := hπl j (by simp [hj])
      simp at this ⊢
      rcases this with h | rfl | h
      · exact .inl h
      · exact absurd hj hπi
      · exact .inr h

/-- May these lists be walked in the place of every order? -/
def ordersOk (ops : Array Oper) (kind : Nat → Nat) (B : List (Nat × Nat)) (ls : List (List Nat)) : Bool :=
  covers B ls && withMasks ops.toList [] fun ms => ls.all fun l => l.length == ops.size && (List.range ops.size).all (l.contains ·) && l.all (· < ops.size) && depsOk ops l && orderOkB ops ms kind B l
/-- THE LAW. -/
theorem wp_region_orders {id : Nat} {a : Act} {w : World} (kind : Nat → Nat) (S : World → Prop) (B : List (Nat × Nat)) (ls : List (List Nat)) (hm : P.follows .mixedOrders = true) (hs : Region.noSelect ops = true) (hok : ordersOk ops kind B ls = true)
    (h : ∀ l ∈ ls, Seq_ P ops S kind Q l a w.drew) : (Code.region id ops true).wp P Q a w := by
  refine wp_region_draw fun t => ?_
  simp only [Region.schedule, hm, Bool.true_or, if_true]
  simp only [ordersOk, Bool.and_eq_true] at hok
  obtain ⟨hcov, hmk⟩ := hok
  obtain ⟨ms, hms, hall⟩ := withMasks_spec hmk
  simp only [Bool.and_eq_true, List.all_eq_true] at hall
  obtain ⟨l, hl, hB⟩ := covers_spec (fun b => ahead (Region.linearise .any ops t) b) B ls hcov
  obtain ⟨⟨⟨⟨hlen, hin⟩, hlt⟩, hdep⟩, hord⟩ := hall l hl
  have hlt' : ∀ j ∈ l, j < ops.size := fun j hj => by simpa using hlt j hj
  have hmem : ∀ j, j < ops.size → ((Array.replicate ops.size false).getD j true = false ↔ j ∈ l) := fun j hj => by
    simp [hj]
    have := hin j (by simp [hj])
    simpa using this
  have hlin : Lin ops (Region.linearise .any ops t) (Array.replicate ops.size false) := lin_linearise ops.size t _ l (by simpa using hlen) (by simp) hmem hlt' hdep
  refine ops_of_seq hms (Region.noSelect_spec hs) (B := B) _ _ l a _ hlin (by simp) hmem hlt' hord (fun z o hz => ?_) (fun b hb _ _ => hB b hb) (Lin.all_ _ _ l hlin (by simp) hmem hlt' hdep) (fun j hj => ?_) (h l hl)
  · exfalso
    rw [Array.getD_eq_getD_getElem?] at hz
    by_cases hzl : z < ops.size <;> simp [hzl] at hz
  · exact (hmem j (Lin.small _ _ hlin j hj)).1 (Lin.unlisted _ _ hlin j hj)
end

/-! ### Steps by index -/
/-- Kinds for 'wp_region_orders': a load yields wherever S holds; a call in 'quiet' yields in every world; a store may break S; what else changes the world keeps it. 'over': exceptions. -/
def kindB (quiet : List Nat) (over : List (Nat × Nat)) (ops : Array Oper) (i : Nat) : Nat :=
  match over.lookup i with
  | some k => k
  | none => match ops[i]? with
    | none => 4
    | some o => match o.op with
      | .load .. => 1
      | .store .. => 4
      | .alloc .. | .box .. | .makeSlice .. | .buildSlice .. | .slice .. | .makeFunc .. => 3
      | .call c => match c.callee with
        | .builtin .append | .builtin .copy => 3
        | .builtin _ => 0
        | .value (.func f) => if quiet.contains f then 1 else 3
        | _ => 3
      | _ => 0
section
variable {P : Program} {ops : Array Oper} {Q : Exit → Act → World → Prop} {S : World → Prop} {kind : Nat → Nat} {i : Nat} {rest : List Nat} {o : Oper} {a : Act} {w : World}
theorem sq_nil (h : Q .normal a w) : Seq_ P ops S kind Q [] a w := h
theorem sq_of_still {v : Value} (ho : ops[i]? = some o) (hk : kind i ≤ 2) (hg : Region.wanted o (yielded ops a.tmps) = true) (h0 : Still P o a w v) (h1 : kind i = 0 → Plain P o a v) (h2 : kind i = 1 → ∀ w', S w' → Still P o a w' v)
    (h : Seq_ P ops S kind Q rest (a.put o.dst v) w) : Seq_ P ops S kind Q (i :: rest) a w := by
  unfold Seq_ Next_
  simp only [ho, hg, if_true]
  rw [if_pos hk]
  exact ⟨v, h0, h1, h2, h⟩
theorem sq_free {v : Value} (ho : ops[i]? = some o) (hk : kind i = 0) (hg : Region.wanted o (yielded ops a.tmps) = true)
    (hr : ∀ w', (execOp a.eval o).run P w' = .ok (.value v) w') (h : Seq_ P ops S kind Q rest (a.put o.dst v) w) : Seq_ P ops S kind Q (i :: rest) a w :=
  sq_of_still ho (by omega) hg (Plain.still hr w) (fun _ => hr) (fun h1 => by omega) h
theorem sq_call {v : Value} (ho : ops[i]? = some o) (hk : kind i = 1) (hg : Region.wanted o (yielded ops a.tmps) = true)
    (hr : ∀ w, CallOf P o a w fun f args w0 => Calls P f args w0 fun e w' => e = .returned v ∧ w = w') (h : Seq_ P ops S kind Q rest (a.put o.dst v) w) : Seq_ P ops S kind Q (i :: rest) a w :=
  have hs : ∀ w', Still P o a w' v := fun w' => by
    have hr := hr w'
    unfold Still
    unfold CallOf at hr
    split at hr
    · rename_i f args w' he
      rw [he]
      exact hr.mono fun e w' ⟨h1, h2⟩ => ⟨h1, h2.symm⟩
    · exact hr.elim
  sq_of_still ho (by omega) hg (hs w) (fun h1 => by omega) (fun _ w' _ => hs w') h
theorem sq_held {v : Value} (ho : ops[i]? = some o) (hk : kind i = 1) (hg : Region.wanted o (yielded ops a.tmps) = true) (hS : S w)
    (hr : ∀ w', S w' → (execOp a.eval o).run P w' = .ok (.value v) w') (h : Seq_ P ops S kind Q rest (a.put o.dst v) w) : Seq_ P ops S kind Q (i :: rest) a w :=
  have hs : ∀ w', S w' → Still P o a w' v := fun w' h' => by unfold Still; rw [hr w' h']; exact ⟨rfl, rfl⟩
  sq_of_still ho (by omega) hg (hs w hS) (fun h1 => by omega) (fun _ => hs) h
theorem sq_here {v : Value} (ho : ops[i]? = some o) (hk : kind i = 2) (hg : Region.wanted o (yielded ops a.tmps) = true)
    (hr : (execOp a.eval o).run P w = .ok (.value v) w) (h : Seq_ P ops S kind Q rest (a.put o.dst v) w) : Seq_ P ops S kind Q (i :: rest) a w :=
  sq_of_still ho (by omega) hg (by unfold Still; rw [hr]; exact ⟨rfl, rfl⟩) (fun h1 => by omega) (fun h1 => by omega) h
theorem sq_skip (ho : ops[i]? = some o) (hg : Region.wanted o (yielded ops a.tmps) = false) (h : Seq_ P ops S kind Q rest (a.put o.dst undef) w) : Seq_ P ops S kind Q (i :: rest) a w := by
  unfold Seq_ Next_
  simp only [ho, hg]
  exact h
theorem sq_eff (ho : ops[i]? = some o) (hk : kind i = 4) (hg : Region.wanted o (yielded ops a.tmps) = true)
    (h : ∀ K : Act → World → Prop, (∀ a' w', Seq_ P ops S kind Q rest a' w' → K a' w') → o.wp P a w K NoQ) : Seq_ P ops S kind Q (i :: rest) a w := by
  unfold Seq_ Next_
  simp only [ho, hg, if_true]
  rw [if_neg (by omega)]
  exact h _ fun a' w' h' => ⟨fun h3 => by omega, h'⟩
theorem sq_keep (ho : ops[i]? = some o) (hk : kind i = 3) (hg : Region.wanted o (yielded ops a.tmps) = true)
    (h : ∀ K : Act → World → Prop, (∀ a' w', S w' → Seq_ P ops S kind Q rest a' w' → K a' w') → o.wp P a w K NoQ) : Seq_ P ops S kind Q (i :: rest) a w := by
  unfold Seq_ Next_
  simp only [ho, hg, if_true]
  rw [if_neg (by omega)]
  exact h _ fun a' w' hS h' => ⟨fun _ => hS, h'⟩
end
theorem wp_region_ordB {P : Program} {ops : Array Oper} {Q : Exit → Act → World → Prop} {id : Nat} {a : Act} {w : World} (quiet : List Nat) (over : List (Nat × Nat)) (S : World → Prop) (B : List (Nat × Nat)) (ls : List (List Nat)) (hm : P.follows .mixedOrders = true) (hs : Region.noSelect ops = true)
    (hok : ordersOk ops (kindB quiet over ops) B ls = true) (h : ∀ l ∈ ls, Seq_ P ops S (kindB quiet over ops) Q l a w.drew) : (Code.region id ops true).wp P Q a w :=
  wp_region_orders _ S B ls hm hs hok h
end Go.Proofs.YtcoicmbjoaonoaaDoor
