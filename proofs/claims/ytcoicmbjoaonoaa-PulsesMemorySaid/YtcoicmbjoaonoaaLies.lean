/-
  A value is a slice that reads so: what slices lead to, wherever they lie. No statement is proved here.
-/
import Derived.Test.YtcoicmbjoaonoaaLists
namespace Go.Proofs.Ytcoicmbjoaonoaa
open Go.RowKit
/-- A value is a slice of n numbers that read f. -/
def Lies (u : World) (v : Value) (n : Nat) (f : Nat → Int) : Prop := ∃ p cap b o, v = .slice p n cap ∧ Reads u p n b o f
theorem Rowed.lies {w u : World} {v : Value} {e : TypeId} {n : Nat} {f : Nat → Int} {tl bs : List (Nat × TypeId × Array Value)} (RO : Rowed e 1 v n (fun i => .int .i64 (f i)) tl) (H : Has w u bs) (hs : tl.Sublist bs) : Lies u v n f := by
  obtain ⟨p, cap, rfl, _⟩ := RO.shape
  obtain ⟨_, b, R⟩ := RO.now H hs
  exact ⟨p, cap, b, 0, rfl, R⟩
theorem Has.lies {w u : World} {g : Nat} {t : TypeId} {n m cap : Nat} {f : Nat → Int} {bs : List (Nat × TypeId × Array Value)} (H : Has w u bs) (hm : (g, t, row m f) ∈ bs) (h : n ≤ m) : Lies u (.slice (some ⟨g, 0, none⟩) n cap) n f :=
  ⟨_, cap, g, 0, rfl, Reads.ofRow H hm h⟩
theorem Has.liesP {w u : World} {g : Nat} {t : TypeId} {n m k cap : Nat} {f : Nat → Int} {bs : List (Nat × TypeId × Array Value)} (H : Has w u bs) (hm : (g, t, row m f) ∈ bs) (h : k + n ≤ m) : Lies u (.slice (some ⟨g, k, none⟩) n cap) n (fun i => f (k + i)) :=
  ⟨_, cap, g, k, rfl, Reads.part H hm h⟩
theorem Has.liesT {w u : World} {g : Nat} {t : TypeId} {m k cap : Nat} {f : Nat → Int} {bs : List (Nat × TypeId × Array Value)} (H : Has w u bs) (hm : (g, t, row m f) ∈ bs) (h : k ≤ m) : Lies u (.slice (if m = k then some ⟨g, 0, none⟩ else some ⟨g, k, none⟩) (m - k) cap) (m - k) (fun i => f (k + i)) :=
  ⟨_, cap, g, k, rfl, ⟨fun h0 => if_neg (by omega), (Reads.part H hm (by omega)).cell⟩⟩
theorem Lies.congr {u : World} {v : Value} {n : Nat} {f f' : Nat → Int} (L : Lies u v n f) (h : ∀ i, i < n → f i = f' i) : Lies u v n f' := by
  obtain ⟨p, cap, b, o, e, R⟩ := L
  exact ⟨p, cap, b, o, e, R.congr h⟩
theorem Lies.below {w u : World} {v : Value} {n : Nat} {f : Nat → Int} (L : Lies w v n f) (hb : Below w.heap.size w u) : Lies u v n f := by
  obtain ⟨p, cap, b, o, e, R⟩ := L
  exact ⟨p, cap, b, o, e, R.below hb⟩
theorem Lies.has {w u : World} {v : Value} {n : Nat} {f : Nat → Int} {bs : List (Nat × TypeId × Array Value)} (L : Lies w v n f) (H : Has w u bs) : Lies u v n f := by
  obtain ⟨p, cap, b, o, e, R⟩ := L
  exact ⟨p, cap, b, o, e, R.has H⟩
theorem Has.joinR {w0 u u' : World} {bs bs' : List (Nat × TypeId × Array Value)} (h : Has w0 u bs) (h' : Has u u' bs') : Has w0 u' (bs ++ bs') := (h.join h').perm List.perm_append_comm
theorem From.readsA {P : Program} {u : World} {t e : TypeId} {p : Option Addr} {m c : Nat} {ad : Addr} {f : Nat → Int} (ht : sliceOf P t e 1 8 = true) (R : ReadsA u p m ad f) : From P t 1 (.slice p m c) m (fun i => .int .i64 (f i)) u := by
  by_cases hm : 0 < m
  · obtain rfl := R.ptr hm
    exact From.cells ht (fun j hj => R.cell j (by omega)) (fun j _ => rfl)
  · obtain rfl : m = 0 := by omega
    cases p with
    | none => exact From.nil ht c _
    | some a => exact From.cells ht (fun j hj => by omega) (fun j _ => rfl)
theorem Lies.from_ {P : Program} {u : World} {t e : TypeId} {v : Value} {m : Nat} {f : Nat → Int} (ht : sliceOf P t e 1 8 = true) (L : Lies u v m f) : From P t 1 v m (fun i => .int .i64 (f i)) u := by
  obtain ⟨p, cap, b, o, rfl, R⟩ := L
  exact From.readsA ht R.toA
section
variable {P : Program} {o : Oper} {a : Act} {K : Act → World → Prop} {Q : Exit → Act → World → Prop} {w0 u : World} {bs bs' : List (Nat × TypeId × Array Value)}
/-- A copy: numbers appended to nothing. -/
theorem wp_append_nil {t e : TypeId} (H : Has w0 u bs) (s_ x_ : Operand) (ho : o.op = .call { callee := .builtin .append, args := #[s_, x_], argTypes := #[t, t] }) {x : Value} {m : Nat} {f : Nat → Int} (hs : a.eval s_ = .slice none 0 0) (hx : a.eval x_ = x) (ht : sliceOf P t e 1 8 = true)
    (S : From P t 1 x m (fun i => .int .i64 (f i)) u) (hm : m ≤ 17592186044416)
    (h : ∀ v' u' tl', Rowed e 1 v' m (fun i => .int .i64 (f i)) tl' → Has w0 u' (bs ++ tl') → K (a.put o.dst v') u') : o.wp P a u K Q := by
  have H' : Has w0 u (bs ++ []) := by rw [List.append_nil]; exact H
  have hmx : maxLen = 9223372036854775807 := rfl
  refine wp_append_has (bs := bs) (B := 8) s_ x_ t ho H' (Rowed.nil e 1 (fun i => .int .i64 (f i))) hs hx ht S (by omega) (by omega) fun v' u' tl' R' H2 => ?_
  rw [Nat.zero_add] at R'
  refine h v' u' tl' (R'.congr fun i hi => ?_) H2
  unfold glue
  rw [if_neg (by omega)]; rfl
/-- A cell that was there before, read in a region that draws. -/
theorem ones_load_old {ops : Array Oper} {quiet : List Nat} {rest : List Oper} (H : Has w0 u bs) (ty : TypeId) (x : Operand) (hk : kindOf quiet o = 2) (hg : Region.wanted o (yielded ops a.tmps) = true) (ho : o.op = .load ty x) {p : Addr} {v : Value} (hx : a.eval x = .pointer (some p)) (hs : scalarOf P ty = true) (hv : w0.cell? p = some v)
    (h : Ones P ops quiet Q rest (a.put o.dst v) u) : Ones P ops quiet Q (o :: rest) a u := by
  have hc := H.old_cell hv
  refine ones_here hk hg ?_ h
  unfold execOp
  simp only [ho, hx, Instr.loadAt, Instr.sureAddr, Sem.run_bind, Sem.run_pure, Result.andThen_ok, run_loadVar_one hs hc]
/-- Numbers appended to a list of the call's own. -/
theorem wp_append_rowed {t e : TypeId} {tl : List (Nat × TypeId × Array Value)} (H : Has w0 u bs) (hp : bs.Perm (bs' ++ tl)) (s_ x_ : Operand) (ho : o.op = .call { callee := .builtin .append, args := #[s_, x_], argTypes := #[t, t] }) {v x : Value} {n m : Nat} {f f2 : Nat → Int} (R : Rowed e 1 v n (fun i => .int .i64 (f i)) tl) (hs : a.eval s_ = v) (hx : a.eval x_ = x) (ht : sliceOf P t e 1 8 = true)
    (S : From P t 1 x m (fun i => .int .i64 (f2 i)) u) (hm : n + m ≤ 17592186044416)
    (h : ∀ v' u' tl', Rowed e 1 v' (n + m) (fun i => .int .i64 (if i < n then f i else f2 (i - n))) tl' → Has w0 u' (bs' ++ tl') → K (a.put o.dst v') u') : o.wp P a u K Q := by
  have H' : Has w0 u (bs' ++ tl) := H.perm hp
  have hmx : maxLen = 9223372036854775807 := rfl
  refine wp_append_has (bs := bs') (B := 8) s_ x_ t ho H' R hs hx ht S (by omega) (by omega) fun v' u' tl' R' H2 => ?_
  refine h v' u' tl' (R'.congr fun i hi => ?_) H2
  unfold glue
  rw [Nat.mul_one]
  split <;> rfl
end
theorem same_l {u : World} {v v' : Value} {n : Nat} {f : Nat → Int} (hn : n ≤ 9223372036854775807) (L : Lies u v n f) (L' : Lies u v' n f) :
    Calls Try.prog 38 #[v, v'] u fun e w' => e = .returned (.bool true) ∧ Below u.heap.size u w' := by
  obtain ⟨p, cap, b, o, rfl, R⟩ := L
  obtain ⟨p', cap', b', o', rfl, R'⟩ := L'
  exact same_yes p p' n cap b o cap' b' o' f u hn R R'
end Go.Proofs.Ytcoicmbjoaonoaa
