/-
  front.High where something is out of bounds; the walk of HighCut. No statement is proved here.
-/
import Derived.Test.YtakacoiknapjiaaHighs
import Derived.Test.YtakacoiknapjiaaLies
import Derived.Test.YtakacoiknapjiaaLists
import Derived.Test.YtakacoiknapjiaaRegTwo
namespace Go.Proofs.Ytakacoiknapjiaa
open Go.RowKit
def HighNo (w : World) (e : Ending) (w' : World) : Prop := e = .returned (.tuple #[.slice none 0 0, .agg (row 4 fun _ => 0), .int .i64 2]) ∧ Below w.heap.size w w'
def HighIn (q f : Nat → Int) (n : Nat) : Prop := (∀ i, i < n → In16 (f i)) ∧ ∀ i, i < 4 → In16 (q i)
theorem High_l {q f : Nat → Int} {n : Nat} {v : Value} {u : World} (hn : n ≤ 17592186044416) (h : HighIn q f n) (L : Lies u v n f) : Calls Try.prog 11 #[.agg (row 4 q), v] u (HighPost f q n u) := by
  obtain ⟨P, cap, b, o, rfl, R⟩ := L
  exact High_yes q f P n cap b o u hn h.2 h.1 R
set_option maxHeartbeats 6400000 in
set_option maxRecDepth 100000 in
theorem High_no {q f : Nat → Int} {n : Nat} {v : Value} {u : World} (hn : n ≤ 17592186044416) (h : ¬ HighIn q f n) (L : Lies u v n f) : Calls Try.prog 11 #[.agg (row 4 q), v] u (HighNo u) := by
  obtain ⟨P, cap, b, o, rfl, hR⟩ := L
  have H := Has.start u
  have r1 : ∀ w' : World, Below u.heap.size u w' → Calls Try.prog 24 #[.slice P n cap] w' fun e w'' => e = .returned (.bool (rightB n f)) ∧ w' = w'' := fun w' hb => right_any P n cap b o f w' (by omega) (hR.below hb)
  have r2 : ∀ (g : Nat) (t : TypeId) (bs : List (Nat × TypeId × Array Value)) (w' : World), Has u w' bs → (g, t, row 4 q) ∈ bs → Calls Try.prog 24 #[.slice (some ⟨g, 0, none⟩) 2 2] w' fun e w'' => e = .returned (.bool (rightB 2 q)) ∧ w' = w'' := fun g t bs w' H hm =>
    right_any (some ⟨g, 0, none⟩) 2 2 g 0 q w' (by omega) ⟨fun _ => rfl, fun i hi => by rw [Nat.zero_add, (H.at_ hm).cell, row_get q (by omega)]⟩
  have r3 : ∀ (g : Nat) (t : TypeId) (bs : List (Nat × TypeId × Array Value)) (w' : World), Has u w' bs → (g, t, row 4 q) ∈ bs → Calls Try.prog 24 #[.slice (some ⟨g, 2, none⟩) 2 2] w' fun e w'' => e = .returned (.bool (rightB 2 fun i => q (2 + i))) ∧ w' = w'' := fun g t bs w' H hm =>
    right_any (some ⟨g, 2, none⟩) 2 2 g 2 (fun i => q (2 + i)) w' (by omega) (Reads.part H hm (by omega))
  have hb : rightB n f = false ∨ rightB 2 q = false ∨ rightB 2 (fun i => q (2 + i)) = false := by
    cases e1 : rightB n f
    · exact .inl rfl
    · cases e2 : rightB 2 q
      · exact .inr (.inl rfl)
      · cases e3 : rightB 2 (fun i => q (2 + i))
        · exact .inr (.inr rfl)
        · exfalso
          refine h ⟨rightB_iff.1 e1, fun i hi => ?_⟩
          by_cases h2 : i < 2
          · exact rightB_iff.1 e2 i h2
          · have := rightB_iff.1 e3 (i - 2) (by omega)
            rwa [show 2 + (i - 2) = i by omega] at this
  have R1 := Lib.hid r1
  have R2 := Lib.hid r2
  have R3 := Lib.hid r3
  clear r1 r2 r3 h
  generalize rightB n f = x at *
  generalize rightB 2 q = y at *
  generalize rightB 2 (fun i => q (2 + i)) = z at *
  have HZ : (#[.int .i64 0, .int .i64 0, .int .i64 0, .int .i64 0] : Array Value) = row 4 (fun _ => 0) := rfl
  cases x <;> cases y <;> cases z <;> first | (exfalso; simp at hb; done) | skip
  all_goals clear hb
  all_goals
    go_enter Try.func11, Try.ntmps11
    go_wp2_with (first | ((refine wpList_on (o := ⟨_, .box _ (.tmp 0), _, _, _, _⟩) rfl (fun K hK => ?_)); refine wp_box H _ (.tmp 0) rfl (v := .agg _) rfl ?_; clear H; intro u gh H; refine hK _ _ ?_; clear hK K; try simp only [Value.cells, List.cons_append, List.nil_append] at H) | (refine wpList_on (o := ⟨some 5, .alloc 24, _, _, _, _⟩) rfl (fun K hK => ?_); refine wp_alloc H 24 rfl (z := (.agg (row 4 fun _ => 0))) (by kernel_rfl) ?_; clear H; intro u gr H; refine hK _ _ ?_; clear hK K; try simp only [Value.cells, List.cons_append, List.nil_append] at H) | (go_at_call 24; (with_reducible refine (R1.out _ H.below).mono ?_); rintro e w1 ⟨rfl, rfl⟩) | (go_at_call 24; (with_reducible refine (R2.out _ _ _ _ H (by repeat (first | exact List.mem_cons_self | apply List.mem_cons_of_mem | apply List.mem_append_right))).mono ?_); rintro e w1 ⟨rfl, rfl⟩) | (go_at_call 24; (with_reducible refine (R3.out _ _ _ _ H (by repeat (first | exact List.mem_cons_self | apply List.mem_cons_of_mem | apply List.mem_append_right))).mono ?_); rintro e w1 ⟨rfl, rfl⟩) | ((refine wpList_on (o := ⟨_, .store 24 _ _, _, _, _, _⟩) rfl (fun K hK => ?_)); refine wp_store_all (l1 := []) H 24 _ _ rfl rfl rfl (by kernel_rfl) (by simp [row_size]) (row_one _ _) ?_; clear H; intro u H; refine hK _ _ ?_; clear hK K; try simp only [Value.cells, List.cons_append, List.nil_append] at H))
    refine bodyPost_ret (results_tct rfl _ H rfl (by repeat (first | exact List.mem_cons_self | apply List.mem_cons_of_mem | apply List.mem_append_right)) (by kernel_rfl)) rfl ⟨rfl, H.below⟩
end Go.Proofs.Ytakacoiknapjiaa
