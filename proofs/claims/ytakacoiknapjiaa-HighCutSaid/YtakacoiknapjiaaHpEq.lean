/-
  Two memories of the high-pass that are equal. No statement is proved here.
-/
import Derived.Test.YtakacoiknapjiaaHighNo
namespace Go.Proofs.Ytakacoiknapjiaa
open Go.RowKit
theorem eqIn_row {P : Program} {t e : TypeId} {k : IntKind} {i : TypeInfo} {n : Nat} (ht : P.underlying t = some (.array n e)) (he : P.underlying e = some (.int k)) (hi : P.info? e = some i) (hc : P.cellsOf e = 1) (w : World) (f : Nat → Int) (d : Nat) :
    (Op.equalIn (d + 2) t (.agg (row n f)) (.agg (row n f))).run P w = .ok true w := by
  rw [run_equalIn_array w (d + 1) (row n f) (row n f) ht hi, hc, run_eqItems_row w d he n f f _ (by simp)]
  have := rowEq_of (n := n) (f := f) (g := f) (fun _ _ => rfl)
  unfold rowEq at this
  exact congrArg (fun b => Result.ok b w) this
theorem hp_eql (q : Nat → Int) (w : World) : (binOp .eql 24 (.agg (row 4 q)) (.agg (row 4 q))).run Try.prog w = .ok (.bool true) w := by
  show (binOp .eql 24 (.agg #[.int .i64 (q 0), .int .i64 (q 1), .int .i64 (q 2), .int .i64 (q 3)]) (.agg #[.int .i64 (q 0), .int .i64 (q 1), .int .i64 (q 2), .int .i64 (q 3)])).run Try.prog w = _
  have e1 := fun w => eqIn_row (P := Try.prog) (t := 22) Try.underlying22 Try.underlying3 (info_some (by kernel_rfl)) (by kernel_rfl) w q 9997
  have e2 := fun w => eqIn_row (P := Try.prog) (t := 22) Try.underlying22 Try.underlying3 (info_some (by kernel_rfl)) (by kernel_rfl) w (fun i => q (2 + i)) 9997
  have r1 : row 2 q = #[.int .i64 (q 0), .int .i64 (q 1)] := rfl
  have r2 : row 2 (fun i => q (2 + i)) = #[.int .i64 (q 2), .int .i64 (q 3)] := rfl
  rw [r1] at e1
  rw [r2] at e2
  go_simp
end Go.Proofs.Ytakacoiknapjiaa
