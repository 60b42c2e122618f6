/- The engine and the walks that this claim uses, part 6. Written by prune.py out of our own texts. -/
import Derived.Test.YtohlmcebphcokaaA5
section
/- Walks, written by gen.py out of hints. -/



set_option linter.unusedVariables false
set_option linter.unusedSimpArgs false
namespace Go.Proofs.Ytohlmcebphcokaa
open Go.Eng
set_option maxRecDepth 10000
set_option maxHeartbeats 1000000

theorem slices_Compact_Arc_Arc_W (l : List Arc) (hne : l ≠ []) (hml : (l.length : Int) ≤ 9223372036854775807) : DoesW Try.prog 105 (fun v => [v]) (fun v => v) 3 93 (l.map arcC) ((dd l).map arcC) := by
  have hpos : 0 < l.length := List.length_pos_iff.2 hne
  refine DoesW.of_body (as_ := [.o 0]) Try.func105 rfl rfl (by simp) Try.call105 (fun _ => rfl) (by intro O H w h1 i x s hx hs; rcases i with _ | i <;> simp at hx hs; subst hx; subst hs; exact .o 0 h1) (by simpa using hne) (by simpa using dd_ne hne) (fun O0 Oc W => ?_)
  refine Tr.seq ?_
  refine Tr.region ?_
  refine TrOps.sem (OpSem.move (.inr rfl) rfl) rfl rfl (by decide) ?_
  refine TrOps.nil ?_
  refine At.seq ?_
  refine Tr.seq ?_
  refine Tr.seq ?_
  refine Tr.region ?_
  refine TrOps.sem (OpSem.move (.inl rfl) rfl) rfl rfl (by decide) ?_
  refine TrOps.sem (OpSem.leno rfl rfl rfl es44) rfl rfl (by decide) ?_
  refine TrOps.sem (OpSem.bin rfl rfl rfl blss) rfl rfl (by decide) ?_
  refine TrOps.nil ?_
  refine At.seq ?_
  refine Tr.cond rfl (fun c8 => ?_) (fun c8 => ?_)
  · have hlt : l.length < 2 := by simp at c8; omega
    refine Tr.seq ?_
    refine Tr.region ?_
    refine TrOps.sem (OpSem.move (.inl rfl) rfl) rfl rfl (by decide) ?_
    refine TrOps.sem (OpSem.move (.inr rfl) rfl) rfl rfl (by decide) ?_
    refine TrOps.nil ?_
    refine At.seq ?_
    refine Tr.ret ?_
    refine At.pass_ret ?_
    exact At.retW rfl (.tmp rfl <| .nil) rfl rfl (by simp [plainB]) (by rw [dd_one hlt]) (fun H => rfl)
  · have hge : 2 ≤ l.length := by simp at c8; omega
    refine Tr.skip ?_
    refine At.seq ?_
    refine Tr.seq ?_
    refine Tr.seq ?_
    refine Tr.region ?_
    refine TrOps.sem (OpSem.move (.inr rfl) rfl) rfl rfl (by decide) ?_
    refine TrOps.nil ?_
    refine At.seq ?_
    refine Tr.block ?_
    refine Tr.loop (X := Nat) (fun k => 1 ≤ k ∧ k ≤ l.length ∧ ∀ i : Nat, 0 < i → i < k → nth l i ≠ nth l (i - 1 : Int)) (fun k => [(0, .o 0), (3, I (k))]) (fun k => [(0, .own 3 93 (l.map arcC)), (1000, .fr (frK Oc W))]) (fun k => l.length - k) 1 ⟨by omega, by omega, fun i h0 h1 => by omega⟩ ?_ ?_
    · exact .slot rfl (.refl _) <| .slot rfl (.refl _) <| .mem rfl <| .mem rfl <| .nil
    · rintro k ⟨hk1, hkl, hinv⟩
      refine Tr.seq ?_
      refine Tr.seq ?_
      refine Tr.region ?_
      refine TrOps.sem (OpSem.move (.inl rfl) rfl) rfl rfl (by decide) ?_
      refine TrOps.sem (OpSem.move (.inl rfl) rfl) rfl rfl (by decide) ?_
      refine TrOps.sem (OpSem.leno rfl rfl rfl es44) rfl rfl (by decide) ?_
      refine TrOps.sem (OpSem.bin rfl rfl rfl blss) rfl rfl (by decide) ?_
      refine TrOps.nil ?_
      refine At.seq ?_
      refine Tr.cond rfl (fun c13 => ?_) (fun c13 => ?_)
      · have hk : k < l.length := by simpa using c13
        refine Tr.skip ?_
        refine At.seq ?_
        refine Tr.seq ?_
        refine Tr.block ?_
        refine Tr.seq ?_
        refine PC.start [] ?_
        refine PC.sem (OpSem.move (.inl rfl) rfl) rfl rfl ?_
        refine PC.sem (OpSem.move (.inl rfl) rfl) rfl rfl ?_
        refine PC.sem (OpSem.idxo rfl rfl rfl rfl es44 (by omega) (by simp; omega)) rfl rfl ?_
        refine PC.sem (OpSem.loadqN (r := arcC (nth l k)) rfl rfl rfl vs93 (arcs_at (by omega) (by omega))) rfl rfl ?_
        refine PC.sem (OpSem.move (.inl rfl) rfl) rfl rfl ?_
        refine PC.sem (OpSem.move (.inl rfl) rfl) rfl rfl ?_
        refine PC.sem (OpSem.bin rfl rfl rfl (bsub (by omega) (by omega))) rfl rfl ?_
        refine PC.sem (OpSem.idxo rfl rfl rfl rfl es44 (by omega) (by simp; omega)) rfl rfl ?_
        refine PC.sem (OpSem.loadqN (r := arcC (nth l (k - 1 : Int))) rfl rfl rfl vs93 (arcs_at (by omega) (by omega))) rfl rfl ?_
        refine PC.done0 mixed (by kernel_rfl) (by kernel_rfl) (by kernel_rfl) (by kernel_rfl) (by kernel_rfl) ?_
        refine TrOps.sem (OpSem.eqS3 rfl rfl rfl io93) rfl rfl (by decide) ?_
        refine TrOps.nil ?_
        refine At.seq ?_
        refine Tr.cond rfl (fun c25 => ?_) (fun c25 => ?_)
        · have hdu : nth l k = nth l (k - 1 : Int) := arc_ext3 (by simpa using c25)
          have hk0 : (ddTo l (k + 1)).length = k := by rw [show ddTo l (k + 1) = ddTo l k from if_pos ⟨by omega, hdu⟩, ddTo_take (by omega) hinv]; simp; omega
          refine Tr.seq ?_
          refine Tr.region ?_
          refine TrOps.sem (OpSem.move (.inl rfl) rfl) rfl rfl (by decide) ?_
          refine TrOps.sem (OpSem.move (.inl rfl) rfl) rfl rfl (by decide) ?_
          refine TrOps.sem (OpSem.sliceoL rfl rfl rfl rfl es44 (by omega) (by simp; omega)) rfl rfl (by decide) ?_
          refine TrOps.sem (OpSem.move (.inr rfl) rfl) rfl rfl (by decide) ?_
          refine TrOps.nil ?_
          refine At.seq ?_
          refine Tr.seq ?_
          refine Tr.seq ?_
          refine Tr.region ?_
          refine TrOps.sem (OpSem.move (.inr rfl) rfl) rfl rfl (by decide) ?_
          refine TrOps.nil ?_
          refine At.seq ?_
          refine Tr.block ?_
          refine Tr.loop (X := Nat) (fun j => k + j + 1 ≤ l.length) (fun j => [(0, .o 0), (3, I (((ddTo l (k + j + 1)).length : Int))), (4, .w 0 3 k (l.length - k)), (5, I (((j + 1 : Nat) : Int)))]) (fun j => [(0, .own 3 93 ((dmTo l k j).map arcC)), (1000, .fr (frK Oc W))]) (fun j => l.length - (k + j + 1)) 0 (by omega) ?_ ?_
          · exact .slot rfl (.refl _) <| .slot rfl (Le.i (by rw [Nat.add_zero, hk0])) <| .slot rfl (Le.of_eq (by simp)) <| .slot rfl (Le.of_eq (by simp)) <| .memEq rfl (by simp [dmTo]) <| .mem rfl <| .nil
          · rintro j hjl
            refine Tr.seq ?_
            refine Tr.seq ?_
            refine Tr.region ?_
            refine TrOps.sem (OpSem.move (.inl rfl) rfl) rfl rfl (by decide) ?_
            refine TrOps.sem (OpSem.move (.inl rfl) rfl) rfl rfl (by decide) ?_
            refine TrOps.sem (OpSem.lenw rfl rfl es44) rfl rfl (by decide) ?_
            refine TrOps.sem (OpSem.bin rfl rfl rfl blss) rfl rfl (by decide) ?_
            refine TrOps.nil ?_
            refine At.seq ?_
            refine Tr.cond rfl (fun c32 => ?_) (fun c32 => ?_)
            · have hj : k + j + 1 < l.length := by simp at c32; omega
              have hdl := dk_len (by omega) hdu (j := j)
              have a1 := dmTo_at (by omega) hdu (i := k + j + 1) (j := j) (by omega)
              have a2 := dmTo_at (by omega) hdu (i := k + j) (j := j) (by omega)
              refine Tr.skip ?_
              refine At.seq ?_
              refine Tr.seq ?_
              refine Tr.block ?_
              refine Tr.seq ?_
              refine PC.start [] ?_
              refine PC.sem (OpSem.move (.inl rfl) rfl) rfl rfl ?_
              refine PC.sem (OpSem.move (.inl rfl) rfl) rfl rfl ?_
              refine PC.sem (OpSem.idxw rfl rfl rfl es44 (by omega) (by omega)) rfl rfl ?_
              refine PC.sem (OpSem.loadqN (r := arcC (nth l (k + j + 1 : Nat))) rfl rfl rfl vs93 (arcs_dm a1 (by rw [dmTo_len]; omega) (by omega))) rfl rfl ?_
              refine PC.sem (OpSem.move (.inl rfl) rfl) rfl rfl ?_
              refine PC.sem (OpSem.move (.inl rfl) rfl) rfl rfl ?_
              refine PC.sem (OpSem.bin rfl rfl rfl (bsub (by omega) (by omega))) rfl rfl ?_
              refine PC.sem (OpSem.idxw rfl rfl rfl es44 (by omega) (by omega)) rfl rfl ?_
              refine PC.sem (OpSem.loadqN (r := arcC (nth l (k + j : Nat))) rfl rfl rfl vs93 (arcs_dm a2 (by rw [dmTo_len]; omega) (by omega))) rfl rfl ?_
              refine PC.done0 mixed (by kernel_rfl) (by kernel_rfl) (by kernel_rfl) (by kernel_rfl) (by kernel_rfl) ?_
              refine TrOps.sem (OpSem.neS3 rfl rfl rfl io93) rfl rfl (by decide) ?_
              refine TrOps.nil ?_
              refine At.seq ?_
              refine Tr.cond rfl (fun c44 => ?_) (fun c44 => ?_)
              · have hnq : nth l (k + j + 1 : Nat) ≠ nth l (k + j : Nat) := fun h => by rw [h] at c44; simp at c44
                refine Tr.seq ?_
                refine Tr.region ?_
                refine TrOps.sem (OpSem.move (.inl rfl) rfl) rfl rfl (by decide) ?_
                refine TrOps.sem (OpSem.move (.inl rfl) rfl) rfl rfl (by decide) ?_
                refine TrOps.sem (OpSem.move (.inl rfl) rfl) rfl rfl (by decide) ?_
                refine TrOps.sem (OpSem.move (.inl rfl) rfl) rfl rfl (by decide) ?_
                refine TrOps.sem (OpSem.idxw rfl rfl rfl es44 (by omega) (by omega)) rfl rfl (by decide) ?_
                refine TrOps.sem (OpSem.loadqN (r := arcC (nth l (k + j + 1 : Nat))) rfl rfl rfl vs93 (arcs_dm a1 (by rw [dmTo_len]; omega) (by omega))) rfl rfl (by decide) ?_
                refine TrOps.sem (OpSem.idxo rfl rfl rfl rfl es44 (by omega) (by simp [dmTo_len]; omega)) rfl rfl (by decide) ?_
                refine TrOps.ofSt0 (OpSt.storeqN (r' := arcC (nth l (k + j + 1 : Nat))) rfl rfl rfl rfl vs93 (by simp [dmTo_len]; omega) rfl) rfl rfl rfl ?_
                refine TrOps.nil ?_
                refine At.seq ?_
                refine Tr.region ?_
                refine TrOps.sem (OpSem.move (.inl rfl) rfl) rfl rfl (by decide) ?_
                refine TrOps.sem (OpSem.bin rfl rfl rfl (badd (by omega) (by omega))) rfl rfl (by decide) ?_
                refine TrOps.sem (OpSem.move (.inr rfl) rfl) rfl rfl (by decide) ?_
                refine TrOps.nil ?_
                refine At.block_normal ?_
                refine At.seq ?_
                refine Tr.region ?_
                refine TrOps.sem (OpSem.move (.inl rfl) rfl) rfl rfl (by decide) ?_
                refine TrOps.sem (OpSem.bin rfl rfl rfl (badd (by omega) (by omega))) rfl rfl (by decide) ?_
                refine TrOps.sem (OpSem.move (.inr rfl) rfl) rfl rfl (by decide) ?_
                refine TrOps.nil ?_
                refine At.again (j + 1) (by omega) ?_ (by omega)
                exact .slot rfl (.refl _) <| .slot rfl (Le.i (by rw [ddTo_step (by omega) hdu, if_neg hnq]; simp)) <| .slot rfl (.refl _) <| .slot rfl (Le.i (by omega)) <| .memEq rfl (by rw [dmTo_s (k := k) (j := j) hnq]; exact congrArg _ (map_set3 (L := dmTo l k j) (n := (ddTo l (k + j + 1)).length) (by rw [dmTo_len (l := l) (k0 := k) (j := j)]; omega)).symm) <| .mem rfl <| .nil
              · have hq : nth l (k + j + 1 : Nat) = nth l (k + j : Nat) := arc_ext3 (by simpa using c44)
                refine Tr.skip ?_
                refine At.block_normal ?_
                refine At.seq ?_
                refine Tr.region ?_
                refine TrOps.sem (OpSem.move (.inl rfl) rfl) rfl rfl (by decide) ?_
                refine TrOps.sem (OpSem.bin rfl rfl rfl (badd (by omega) (by omega))) rfl rfl (by decide) ?_
                refine TrOps.sem (OpSem.move (.inr rfl) rfl) rfl rfl (by decide) ?_
                refine TrOps.nil ?_
                refine At.again (j + 1) (by omega) ?_ (by omega)
                exact .slot rfl (.refl _) <| .slot rfl (Le.i (by rw [ddTo_step (by omega) hdu, if_pos hq])) <| .slot rfl (.refl _) <| .slot rfl (Le.i (by omega)) <| .memEq rfl (by rw [dmTo_e (k := k) (j := j) hq]) <| .mem rfl <| .nil
            · have hj : k + j + 1 = l.length := by simp at c32; omega
              have hdl := dk_len (by omega) hdu (j := j)
              refine Tr.exit ?_
              refine At.pass_exit ?_
              refine At.pass_exit ?_
              refine At.block_same ?_
              refine At.seq ?_
              refine Tr.seq ?_
              refine Tr.region ?_
              refine TrOps.sem (OpSem.move (.inl rfl) rfl) rfl rfl (by decide) ?_
              refine TrOps.sem (OpSem.move (.inl rfl) rfl) rfl rfl (by decide) ?_
              refine TrOps.sem (OpSem.sliceoL rfl rfl rfl rfl es44 (by omega) (by simp [dmTo_len]; omega)) rfl rfl (by decide) ?_
              refine TrOps.ofSt0 (OpSt.clearW rfl rfl es44 ze44 rfl rfl (by decide) (by simp [dmTo_len]; omega)) rfl rfl rfl ?_
              refine TrOps.nil ?_
              refine At.seq ?_
              refine Tr.seq ?_
              refine Tr.region ?_
              refine TrOps.sem (OpSem.move (.inl rfl) rfl) rfl rfl (by decide) ?_
              refine TrOps.sem (OpSem.move (.inl rfl) rfl) rfl rfl (by decide) ?_
              refine TrOps.semM (OpSem.cutO rfl rfl rfl rfl es44 (by omega) (by simp [dmTo_len]; omega) (by simp [dmTo_len]; omega)) rfl rfl (by decide) ?_
              refine TrOps.sem (OpSem.move (.inr rfl) rfl) rfl rfl (by decide) ?_
              refine TrOps.nil ?_
              refine At.seq ?_
              refine Tr.ret ?_
              refine At.block_ret ?_
              refine At.pass_ret ?_
              refine At.pass_ret ?_
              refine At.block_ret ?_
              refine At.pass_ret ?_
              exact At.retW rfl (.tmp rfl <| .nil) rfl rfl (by rw [cut_dd (by omega) hdu hk hinv hj]; exact plain_arcs _) (cut_dd (by omega) hdu hk hinv hj) (fun H => rfl)
        · have hdu : nth l k ≠ nth l (k - 1 : Int) := fun h => by rw [h] at c25; simp at c25
          refine Tr.skip ?_
          refine At.block_normal ?_
          refine At.seq ?_
          refine Tr.region ?_
          refine TrOps.sem (OpSem.move (.inl rfl) rfl) rfl rfl (by decide) ?_
          refine TrOps.sem (OpSem.bin rfl rfl rfl (badd (by omega) (by omega))) rfl rfl (by decide) ?_
          refine TrOps.sem (OpSem.move (.inr rfl) rfl) rfl rfl (by decide) ?_
          refine TrOps.nil ?_
          refine At.again (k + 1) ⟨by omega, by omega, fun i h0 hi => by by_cases h : i = k; (subst h; exact hdu); exact hinv i h0 (by omega)⟩ ?_ (by omega)
          exact .slot rfl (.refl _) <| .slot rfl (Le.i (by omega)) <| .mem rfl <| .mem rfl <| .nil
      · have hk : k = l.length := by simp at c13; omega
        refine Tr.exit ?_
        refine At.pass_exit ?_
        refine At.pass_exit ?_
        refine At.block_same ?_
        refine At.seq ?_
        refine Tr.seq ?_
        refine Tr.region ?_
        refine TrOps.sem (OpSem.move (.inl rfl) rfl) rfl rfl (by decide) ?_
        refine TrOps.sem (OpSem.move (.inr rfl) rfl) rfl rfl (by decide) ?_
        refine TrOps.nil ?_
        refine At.seq ?_
        refine Tr.ret ?_
        exact At.retW rfl (.tmp rfl <| .nil) rfl rfl (by simp [plainB]) (by rw [dd_all (by rw [← hk]; exact hinv)]) (fun H => rfl)

end Go.Proofs.Ytohlmcebphcokaa
end

section
/- Walks, written by gen.py out of hints. -/


set_option linter.unusedVariables false
set_option linter.unusedSimpArgs false
namespace Go.Proofs.Ytohlmcebphcokaa
open Go.Eng
set_option maxRecDepth 10000
set_option maxHeartbeats 1000000

theorem abstraction_Sorted_W (l : List Arc) (st lab ini : Int) (gv : Value) (hgv : gv.oneCell' = true) (hne : l ≠ []) (hml : (l.length : Int) < 4611686018427387904) : DoesW Try.prog 74 (fun v => [.agg #[.int .i64 st, .int .i64 lab, v, .int .i64 ini, gv]]) (fun v => .agg #[.int .i64 st, .int .i64 lab, v, .int .i64 ini, gv]) 3 93 (l.map arcC) ((dd (sortL l)).map arcC) := by
  have hsn : sortL l ≠ [] := fun h => hne (List.length_eq_zero_iff.1 (by rw [← sortL_len, h]; rfl))
  refine DoesW.of_body (as_ := [.g [I (st), I (lab), .o 0, I (ini), .d (.v gv)]]) Try.func74 rfl rfl (by simp) Try.call74 (fun _ => rfl) (by intro O H w h1 i x s hx hs; rcases i with _ | i <;> simp at hx hs; subst hx; subst hs; exact repAbsV h1 hgv) (by simpa using hne) (by simpa using dd_ne hsn) (fun O0 Oc W => ?_)
  refine Tr.seq ?_
  refine Tr.region ?_
  refine TrOps.semM (OpSem.box 1 rfl rfl rfl rfl) rfl rfl (by decide) ?_
  refine TrOps.semM (OpSem.alloc 2 rfl zc46 rfl) rfl rfl (by decide) ?_
  refine TrOps.nil ?_
  refine At.seq ?_
  refine Tr.seq ?_
  refine Tr.region ?_
  refine TrOps.sem (OpSem.fieldr rfl rfl fo46_2) rfl rfl (by decide) ?_
  refine TrOps.sem (OpSem.loadb1 rfl rfl rfl vs44 rfl) rfl rfl (by decide) ?_
  refine TrOps.ofSt (OpSt.callWS (s := .t []) (sortArc_W l (by omega)) rfl rfl rfl (fun H => rfl) (plain_arcs _) (fun O H w => .t [] [] rfl (fun i x s h => by simp at h))) rfl rfl rfl (by decide) ?_
  refine TrOps.nil ?_
  refine At.seq ?_
  refine Tr.seq ?_
  refine Tr.region ?_
  refine TrOps.sem (OpSem.fieldr rfl rfl fo46_2) rfl rfl (by decide) ?_
  refine TrOps.sem (OpSem.loadb1 rfl rfl rfl vs44 rfl) rfl rfl (by decide) ?_
  refine TrOps.callW (s := .o 0) (slices_Compact_Arc_Arc_W (sortL l) hsn (by rw [sortL_len]; omega)) rfl rfl rfl (by decide) rfl rfl rfl (fun H => rfl) (plain_arcs _) (fun O H w h1 => .o 0 h1) ?_
  refine TrOps.sem (OpSem.fieldr rfl rfl fo46_2) rfl rfl (by decide) ?_
  refine TrOps.storeb rfl rfl rfl rfl rfl rfl rfl vs44 (by first | decide | simp) ?_
  refine TrOps.nil ?_
  refine At.seq ?_
  refine Tr.seq ?_
  refine Tr.region ?_
  refine TrOps.sem (OpSem.loadbN rfl rfl rfl vs46 (by first | decide | simp)) rfl rfl (by decide) ?_
  refine TrOps.storeb rfl rfl rfl rfl rfl rfl rfl vs46 (by first | decide | simp) ?_
  refine TrOps.nil ?_
  refine At.seq ?_
  refine Tr.ret ?_
  exact At.retW rfl (.cellN rfl rfl vs46 <| .nil) rfl rfl (plain_arcs _) (rfl) (fun H => rfl)

end Go.Proofs.Ytohlmcebphcokaa
end

section
/- Walks, written by gen.py out of hints. -/


set_option linter.unusedVariables false
set_option linter.unusedSimpArgs false
namespace Go.Proofs.Ytohlmcebphcokaa
open Go.Eng
set_option maxRecDepth 10000
set_option maxHeartbeats 1000000


open Go.Shelf Go.RowKit Go.Lib
theorem compact_nil (p : Option Addr) (cap : Nat) (w : World) : Calls Try.prog 105 #[.slice p 0 cap] w fun e w' => e = .returned (.slice p 0 cap) ∧ w' = w := by
  go_enter Try.func105, Try.ntmps105
  go_wp2
  go_ret
  exact ⟨by simp, rfl⟩
theorem heap_at (w : World) (A B : Obj) : ((w.alloc A).alloc B).heap[w.heap.size + 1]? = some B := by
  have h := heap_alloc_new (w.alloc A) B
  have e : (w.alloc A).heap.size = w.heap.size + 1 := by show (w.heap.push A).size = _; simp
  rw [e] at h; exact h
theorem sorted_nil (st lab ini : Int) (q : Option Addr) (n c : Nat) (p : Option Addr) (cap : Nat) (w : World) : Calls Try.prog 74 #[.agg #[.int .i64 st, .int .i64 lab, .slice p 0 cap, .int .i64 ini, .slice q n c]] w fun e w' => e = .returned (.agg #[.int .i64 st, .int .i64 lab, .slice p 0 cap, .int .i64 ini, .slice q n c]) ∧ ∃ os, w' = Go.Sort.grow w os := by
  go_enter Try.func74, Try.ntmps74
  go_wp2_with (first | (go_at_call 104; refine (AnyF.slices_SortFunc_none Try.sortArc p cap _ _).mono ?_; rintro e w' ⟨rfl, rfl⟩) | (go_at_call 105; refine (compact_nil p cap _).mono ?_; rintro e w' ⟨rfl, rfl⟩))
  refine bodyPost_ret (results_cell_row rfl _ _ (w.heap.size + 1) 46 _ (0, 0) _ rfl (heap_at _ _ _) rfl rfl (by kernel_rfl)) rfl ?_
  exact ⟨by simp, _, by rw [Go.Sort.alloc_eq_grow, Go.Sort.alloc_eq_grow, Go.Sort.grow_grow]⟩
theorem sorted_all (l : List Arc) (st lab ini : Int) (q : Option Addr) (n c : Nat) (hml : (l.length : Int) < 4611686018427387904) :
    DoesW Try.prog 74 (fun v => [.agg #[.int .i64 st, .int .i64 lab, v, .int .i64 ini, .slice q n c]]) (fun v => .agg #[.int .i64 st, .int .i64 lab, v, .int .i64 ini, .slice q n c]) 3 93 (l.map arcC) ((dd (sortL l)).map arcC) := by
  by_cases hne : l = []
  · subst hne
    refine ⟨Try.call74, fun w v hv => ?_⟩
    have he : ∃ p cap, v = .slice p 0 cap := by
      rcases hv with ⟨rfl, _⟩ | ⟨b, cap, xs, rfl, _⟩
      · exact ⟨_, _, rfl⟩
      · exact ⟨_, _, rfl⟩
    obtain ⟨p, cap, rfl⟩ := he
    refine (sorted_nil st lab ini q n c p cap w).mono ?_
    rintro e w' ⟨rfl, os, rfl⟩
    have hg : ∀ b, b < w.heap.size → (Go.Sort.grow w os).heap[b]? = w.heap[b]? := fun b hb => by
      unfold Go.Sort.grow
      show (w.heap ++ os)[b]? = _
      rw [Array.getElem?_append_left hb]
    refine ⟨_, rfl, ⟨rfl, rfl, rfl, by rw [Go.Sort.size_grow]; omega, fun b hb _ => hg b hb⟩, ?_, .inr (.inl rfl)⟩
    have e0 : dd (sortL ([] : List Arc)) = [] := by simp [sortL, sortBy, dd, ddTo]
    rw [e0]
    rcases hv with h | ⟨b, cap', xs, h1, h2, h3, h4⟩
    · exact .inl h
    · exact .inr ⟨b, cap', xs, h1, h2, by rw [hg b (Array.getElem?_eq_some_iff.1 h3).1]; exact h3, h4⟩
  · exact abstraction_Sorted_W l st lab ini (.slice q n c) rfl hne hml


end Go.Proofs.Ytohlmcebphcokaa
end

section
/- Walks, written by gen.py out of hints. -/





set_option linter.unusedVariables false
set_option linter.unusedSimpArgs false
namespace Go.Proofs.Ytohlmcebphcokaa
open Go.Eng
set_option maxRecDepth 10000
set_option maxHeartbeats 1000000

theorem labels_Apply_1_does (x : Int) (a : Abs) : Does Try.prog false 73 [I (x), .p [.v (.int .i64 a.states), .v (.int .i64 a.labels), arcsD a.arcs, .v (.int .i64 a.init), ints a.goals]] (Bo (decide (x < 0 ∨ a.labels ≤ x))) := by
  refine Does.of_body Try.func73 rfl rfl (by simp) Try.call73 (fun w0 O0 => ?_)
  refine Tr.seq ?_
  refine Tr.region ?_
  refine TrOps.sem (OpSem.move (.inr rfl) rfl) rfl rfl (by decide) ?_
  refine TrOps.nil ?_
  refine At.seq ?_
  refine Tr.seq ?_
  refine Tr.region ?_
  refine TrOps.sem (OpSem.move (.inl rfl) rfl) rfl rfl (by decide) ?_
  refine TrOps.sem (OpSem.bin rfl rfl rfl blss) rfl rfl (by decide) ?_
  refine TrOps.sem (OpSem.move (.inl rfl) rfl) rfl rfl (by decide) ?_
  refine TrOps.split (n := 6) rfl (fun c6 => ?_) (fun c6 => ?_)
  · refine TrOps.gF rfl rfl rfl rfl c6 rfl (by decide) ?_
    refine TrOps.gF rfl rfl rfl rfl c6 rfl (by decide) ?_
    refine TrOps.gF rfl rfl rfl rfl c6 rfl (by decide) ?_
    refine TrOps.gF rfl rfl rfl rfl c6 rfl (by decide) ?_
    refine TrOps.sem (OpSem.pickT rfl rfl c6 rfl) rfl rfl (by decide) ?_
    refine TrOps.sem (OpSem.move (.inr rfl) rfl) rfl rfl (by decide) ?_
    refine TrOps.nil ?_
    refine At.seq ?_
    refine Tr.ret ?_
    exact At.ret rfl (.tmp rfl <| .nil) rfl (Le.bo (by simp at *; omega))
  · refine TrOps.gT rfl rfl rfl rfl c6 ?_
    refine TrOps.sem (OpSem.move (.inl rfl) rfl) rfl rfl (by decide) ?_
    refine TrOps.gT rfl rfl rfl rfl c6 ?_
    refine TrOps.sem (OpSem.fieldp rfl rfl fo46_1) rfl rfl (by decide) ?_
    refine TrOps.gT rfl rfl rfl rfl c6 ?_
    refine TrOps.sem (OpSem.load1 rfl rfl vs3 rfl) rfl rfl (by decide) ?_
    refine TrOps.gT rfl rfl rfl rfl c6 ?_
    refine TrOps.sem (OpSem.bin rfl rfl rfl bgeq) rfl rfl (by decide) ?_
    refine TrOps.sem (OpSem.pickF rfl rfl c6 rfl) rfl rfl (by decide) ?_
    refine TrOps.sem (OpSem.move (.inr rfl) rfl) rfl rfl (by decide) ?_
    refine TrOps.nil ?_
    refine At.seq ?_
    refine Tr.ret ?_
    exact At.ret rfl (.tmp rfl <| .nil) rfl (Le.bo (by simp at *; omega))

theorem labels_Apply_does (a : Abs) (to : List Int) (hr : -9223372036854775808 ≤ a.states ∧ a.states ≤ 9223372036854775807) : Does Try.prog false 38 [absS a, .d (ints to)] (.t [absS (aplR a to), flt (aplF a to)]) := by
  refine Does.of_body Try.func38 rfl rfl (by simp) Try.call38 (fun w0 O0 => ?_)
  refine Tr.lenG (n := 0) (i := 2) rfl rfl (fun len0_2 => ?_)
  refine Tr.lenG (n := 0) (i := 4) rfl rfl (fun len0_4 => ?_)
  refine Tr.lenLe (n := 1) rfl (fun len1 => ?_)
  refine Tr.seq ?_
  refine Tr.region ?_
  refine TrOps.semM (OpSem.box 2 rfl rfl rfl rfl) rfl rfl (by decide) ?_
  refine TrOps.semM (OpSem.alloc 4 rfl zc46 rfl) rfl rfl (by decide) ?_
  refine TrOps.semM (OpSem.alloc 5 rfl zc29 rfl) rfl rfl (by decide) ?_
  refine TrOps.nil ?_
  refine At.seq ?_
  refine Tr.seq ?_
  refine Tr.region ?_
  refine TrOps.sem (OpSem.loadbN rfl rfl rfl vs46 (by first | decide | simp)) rfl rfl (by decide) ?_
  refine TrOps.sem (OpSem.call0 (abstraction_Validate_does a hr) rfl rfl rfl rfl (Les.refl _)) rfl rfl (by decide) ?_
  refine TrOps.semM (OpSem.alloc 6 rfl zc29 rfl) rfl rfl (by decide) ?_
  refine TrOps.storeb rfl rfl rfl rfl rfl rfl rfl vs29 (by first | decide | simp) ?_
  refine TrOps.nil ?_
  refine At.seq ?_
  refine Tr.cut [(1, .d (ints to)), (2, .r 2 0), (4, .r 4 0), (5, .r 5 0), (6, .r 6 0)] [(2, .box [I (a.states), I (a.labels), .d (arcsD a.arcs), I (a.init), .d (ints a.goals)]), (4, .box [I (0), I (0), .d (.v (.slice none 0 0)), I (0), .d (.v (.slice none 0 0))]), (5, .box [I (0), I (0)]), (6, .box [I ((aplF1 a to).1), I ((aplF1 a to).2)])] ?_ ?_
  · refine Tr.seq ?_
    refine Tr.region ?_
    refine TrOps.sem (OpSem.loadbN rfl rfl rfl vs29 (by first | decide | simp)) rfl rfl (by decide) ?_
    refine TrOps.sem (OpSem.build rfl rfl pl29 zc29 rfl rfl) rfl rfl (by decide) ?_
    refine TrOps.sem (OpSem.eqS2 rfl rfl rfl io29) rfl rfl (by decide) ?_
    refine TrOps.sem (OpSem.move (.inl rfl) rfl) rfl rfl (by decide) ?_
    refine TrOps.split (n := 15) rfl (fun c15 => ?_) (fun c15 => ?_)
    · refine TrOps.gT rfl rfl rfl rfl c15 ?_
      refine TrOps.sem (OpSem.move (.inl rfl) rfl) rfl rfl (by decide) ?_
      refine TrOps.gT rfl rfl rfl rfl c15 ?_
      refine TrOps.sem (OpSem.lenL rfl rfl es22) rfl rfl (by decide) ?_
      refine TrOps.gT rfl rfl rfl rfl c15 ?_
      refine TrOps.sem (OpSem.fieldr rfl rfl fo46_1) rfl rfl (by decide) ?_
      refine TrOps.gT rfl rfl rfl rfl c15 ?_
      refine TrOps.sem (OpSem.loadb1 rfl rfl rfl vs3 rfl) rfl rfl (by decide) ?_
      refine TrOps.gT rfl rfl rfl rfl c15 ?_
      refine TrOps.sem (OpSem.bin rfl rfl rfl bneq) rfl rfl (by decide) ?_
      refine TrOps.sem (OpSem.pickT rfl rfl c15 rfl) rfl rfl (by decide) ?_
      refine TrOps.nil ?_
      refine At.seq ?_
      refine Tr.cond rfl (fun c21 => ?_) (fun c21 => ?_)
      · refine Tr.region ?_
        refine TrOps.sem (OpSem.build rfl rfl pl29 zc29 rfl rfl) rfl rfl (by decide) ?_
        refine TrOps.storeb rfl rfl rfl rfl rfl rfl rfl vs29 (by first | decide | simp) ?_
        refine TrOps.nil ?_
        have he := (aplF1_len (to := to) (pair0 (f := absFault a) (by simpa using c15)) (by simpa using c21)).symm
        refine At.meet ?_
        exact .slot rfl (.refl _) <| .slot rfl (.refl _) <| .slot rfl (.refl _) <| .slot rfl (.refl _) <| .slot rfl (.refl _) <| .mem rfl <| .mem rfl <| .mem rfl <| .boxLe rfl (.cons (Le.i (congrArg Prod.fst (he))) <| .cons (Le.i (congrArg Prod.snd (he))) <| .nil) <| .nil
      · refine Tr.skip ?_
        have he := (aplF1_ok (to := to) (pair0 (f := absFault a) (by simpa using c15)) (by simpa using c21)).symm
        rw [pair0 (f := absFault a) (by simpa using c15)]
        refine At.meet ?_
        exact .slot rfl (.refl _) <| .slot rfl (.refl _) <| .slot rfl (.refl _) <| .slot rfl (.refl _) <| .slot rfl (.refl _) <| .mem rfl <| .mem rfl <| .mem rfl <| .boxLe rfl (.cons (Le.i (congrArg Prod.fst (he))) <| .cons (Le.i (congrArg Prod.snd (he))) <| .nil) <| .nil
    · refine TrOps.gF rfl rfl rfl rfl c15 rfl (by decide) ?_
      refine TrOps.gF rfl rfl rfl rfl c15 rfl (by decide) ?_
      refine TrOps.gF rfl rfl rfl rfl c15 rfl (by decide) ?_
      refine TrOps.gF rfl rfl rfl rfl c15 rfl (by decide) ?_
      refine TrOps.gF rfl rfl rfl rfl c15 rfl (by decide) ?_
      refine TrOps.sem (OpSem.pickF rfl rfl c15 rfl) rfl rfl (by decide) ?_
      refine TrOps.nil ?_
      refine At.seq ?_
      refine Tr.condF rfl rfl ?_
      refine Tr.skip ?_
      have he := (aplF1_bad (a := a) (to := to) (fun h => by rw [h] at c15; simp at c15)).symm
      refine At.meet ?_
      exact .slot rfl (.refl _) <| .slot rfl (.refl _) <| .slot rfl (.refl _) <| .slot rfl (.refl _) <| .slot rfl (.refl _) <| .mem rfl <| .mem rfl <| .mem rfl <| .boxLe rfl (.cons (Le.i (congrArg Prod.fst (he))) <| .cons (Le.i (congrArg Prod.snd (he))) <| .nil) <| .nil
  · refine Tr.cut [(1, .d (ints to)), (2, .p [.v (.int .i64 a.states), .v (.int .i64 a.labels), arcsD a.arcs, .v (.int .i64 a.init), ints a.goals]), (4, .r 4 0), (5, .r 5 0), (6, .r 6 0)] [(4, .box [I (0), I (0), .d (.v (.slice none 0 0)), I (0), .d (.v (.slice none 0 0))]), (5, .box [I (0), I (0)]), (6, .box [I ((aplF a to).1), I ((aplF a to).2)])] ?_ ?_
    · refine Tr.seq ?_
      refine Tr.freezeR 2 rfl rfl ?_
      refine Tr.region ?_
      refine TrOps.sem (OpSem.loadbN rfl rfl rfl vs29 (by first | decide | simp)) rfl rfl (by decide) ?_
      refine TrOps.sem (OpSem.build rfl rfl pl29 zc29 rfl rfl) rfl rfl (by decide) ?_
      refine TrOps.sem (OpSem.eqS2 rfl rfl rfl io29) rfl rfl (by decide) ?_
      refine TrOps.sem (OpSem.move (.inl rfl) rfl) rfl rfl (by decide) ?_
      refine TrOps.split (n := 26) rfl (fun c26 => ?_) (fun c26 => ?_)
      · refine TrOps.gT rfl rfl rfl rfl c26 ?_
        refine TrOps.sem (OpSem.move (.inl rfl) rfl) rfl rfl (by decide) ?_
        refine TrOps.gT rfl rfl rfl rfl c26 ?_
        refine TrOps.sem (OpSem.makeFunc rfl rfl rfl) rfl rfl (by decide) ?_
        refine TrOps.gT rfl rfl rfl rfl c26 ?_
        refine TrOps.sem (OpSem.call (slices_ContainsFunc_int_int_does to 73 [.p [.v (.int .i64 a.states), .v (.int .i64 a.labels), arcsD a.arcs, .v (.int .i64 a.init), ints a.goals]] (fun x => decide (x < 0 ∨ a.labels ≤ x)) (caught_p _) (fun x _ => labels_Apply_1_does x a)) (.inr rfl) rfl rfl rfl rfl (Les.refl _)) rfl rfl (by decide) ?_
        refine TrOps.sem (OpSem.pickT rfl rfl c26 rfl) rfl rfl (by decide) ?_
        refine TrOps.nil ?_
        refine At.seq ?_
        refine Tr.cond rfl (fun c30 => ?_) (fun c30 => ?_)
        · refine Tr.region ?_
          refine TrOps.sem (OpSem.build rfl rfl pl29 zc29 rfl rfl) rfl rfl (by decide) ?_
          refine TrOps.storeb rfl rfl rfl rfl rfl rfl rfl vs29 (by first | decide | simp) ?_
          refine TrOps.nil ?_
          have he := (aplF_rng (a := a) (to := to) (pair0 (by simpa using c26)) (by simpa using c30)).symm
          refine At.meet ?_
          exact .slot rfl (.refl _) <| .slot rfl (.refl _) <| .slot rfl (.refl _) <| .slot rfl (.refl _) <| .slot rfl (.refl _) <| .mem rfl <| .mem rfl <| .boxLe rfl (.cons (Le.i (congrArg Prod.fst (he))) <| .cons (Le.i (congrArg Prod.snd (he))) <| .nil) <| .nil
        · refine Tr.skip ?_
          have he := (aplF_ok (a := a) (to := to) (pair0 (by simpa using c26)) (by simpa using c30)).symm
          refine At.meet ?_
          exact .slot rfl (.refl _) <| .slot rfl (.refl _) <| .slot rfl (.refl _) <| .slot rfl (.refl _) <| .slot rfl (.refl _) <| .mem rfl <| .mem rfl <| .boxLe rfl (.cons (Le.i (congrArg Prod.fst ((by rw [← he]; exact pair0 (by simpa using c26))))) <| .cons (Le.i (congrArg Prod.snd ((by rw [← he]; exact pair0 (by simpa using c26))))) <| .nil) <| .nil
      · refine TrOps.gF rfl rfl rfl rfl c26 rfl (by decide) ?_
        refine TrOps.gF rfl rfl rfl rfl c26 rfl (by decide) ?_
        refine TrOps.gF rfl rfl rfl rfl c26 rfl (by decide) ?_
        refine TrOps.sem (OpSem.pickF rfl rfl c26 rfl) rfl rfl (by decide) ?_
        refine TrOps.nil ?_
        refine At.seq ?_
        refine Tr.condF rfl rfl ?_
        refine Tr.skip ?_
        have he := (aplF_bad (a := a) (to := to) (fun h => by rw [h] at c26; simp at c26)).symm
        refine At.meet ?_
        exact .slot rfl (.refl _) <| .slot rfl (.refl _) <| .slot rfl (.refl _) <| .slot rfl (.refl _) <| .slot rfl (.refl _) <| .mem rfl <| .mem rfl <| .boxLe rfl (.cons (Le.i (congrArg Prod.fst (he))) <| .cons (Le.i (congrArg Prod.snd (he))) <| .nil) <| .nil
    · refine Tr.seq ?_
      refine Tr.seq ?_
      refine Tr.region ?_
      refine TrOps.sem (OpSem.loadbN rfl rfl rfl vs29 (by first | decide | simp)) rfl rfl (by decide) ?_
      refine TrOps.sem (OpSem.build rfl rfl pl29 zc29 rfl rfl) rfl rfl (by decide) ?_
      refine TrOps.sem (OpSem.neS2 rfl rfl rfl io29) rfl rfl (by decide) ?_
      refine TrOps.nil ?_
      refine At.seq ?_
      refine Tr.cond rfl (fun c34 => ?_) (fun c34 => ?_)
      · have h1 : aplF a to ≠ (0, 0) := fun h => by simp [h] at c34
        refine Tr.seq ?_
        refine PC.start [4] ?_
        refine PC.sem (OpSem.build rfl rfl pl46 zc46 rfl rfl) rfl rfl ?_
        refine PC.sem (OpSem.loadbN rfl rfl rfl vs29 (by first | decide | simp)) rfl rfl ?_
        refine PC.storeb 100002 rfl rfl rfl rfl rfl rfl rfl vs46 (by first | decide | simp) ?_
        refine PC.done mixed (by kernel_rfl) (by kernel_rfl) (by kernel_rfl) (by kernel_rfl) ?_
        refine TrOps.storeb rfl rfl rfl rfl rfl rfl rfl vs29 (by first | decide | simp) ?_
        refine TrOps.nil ?_
        refine At.seq ?_
        refine Tr.ret ?_
        refine At.pass_ret ?_
        exact At.ret rfl (.cellN rfl rfl vs46 <| .cellN rfl rfl vs29 <| .nil) rfl (Le.t (.cons (by rw [aplR_1 h1]; exact Le.g (.cons (.refl _) <| .cons (.refl _) <| .cons (Le.nil 3) <| .cons (.refl _) <| .cons (Le.nil 1) <| .nil)) <| .cons (.refl _) <| .nil))
      · have h1 : aplF a to = (0, 0) := pair0 (by simpa using c34)
        obtain ⟨hA, hto, hin⟩ := aplF_inv h1
        have hal := hA.len
        have hgl := goals_len hA
        have hst := hA.head.1
        refine Tr.skip ?_
        refine At.seq ?_
        refine Tr.seq ?_
        refine PC.start [] ?_
        refine PC.sem (OpSem.fieldp rfl rfl fo46_0) rfl rfl ?_
        refine PC.sem (OpSem.load1 rfl rfl vs3 rfl) rfl rfl ?_
        refine PC.sem (OpSem.fieldp rfl rfl fo46_1) rfl rfl ?_
        refine PC.sem (OpSem.load1 rfl rfl vs3 rfl) rfl rfl ?_
        refine PC.sem (OpSem.fieldp rfl rfl fo46_3) rfl rfl ?_
        refine PC.sem (OpSem.load1 rfl rfl vs3 rfl) rfl rfl ?_
        refine PC.sem (OpSem.fieldp rfl rfl fo46_4) rfl rfl ?_
        refine PC.sem (OpSem.load1 rfl rfl vs22 rfl) rfl rfl ?_
        refine PC.sem (OpSem.call0 (slices_Clone_int_int_does a.goals (by omega)).fresh rfl rfl rfl rfl (Les.refl _)) rfl rfl ?_
        refine PC.sem (OpSem.build rfl rfl pl46 zc46 rfl rfl) rfl rfl ?_
        refine PC.semM (OpSem.alloc 7 rfl zc46 rfl) rfl rfl ?_
        refine PC.done1 7 (.box [I (0), I (0), .d (.v (.slice none 0 0)), I (0), .d (.v (.slice none 0 0))]) mixed (by kernel_rfl) (by kernel_rfl) (by kernel_rfl) (by kernel_rfl) (by kernel_rfl) ?_
        refine TrOps.storeb rfl rfl rfl rfl rfl rfl rfl vs46 (by first | decide | simp) ?_
        refine TrOps.nil ?_
        refine At.seq ?_
        refine Tr.seq ?_
        refine Tr.seq ?_
        refine Tr.ownNilBox 90 7 2 3 93 rfl rfl rfl ?_
        refine Tr.region ?_
        refine TrOps.sem (OpSem.fieldp rfl rfl fo46_2) rfl rfl (by decide) ?_
        refine TrOps.sem (OpSem.load1 rfl rfl vs44 rfl) rfl rfl (by decide) ?_
        refine TrOps.sem (OpSem.lenL rfl rfl es44) rfl rfl (by decide) ?_
        refine TrOps.sem (OpSem.move (.inl rfl) rfl) rfl rfl (by decide) ?_
        refine TrOps.nil ?_
        refine At.seq ?_
        refine Tr.block ?_
        refine Tr.loop (X := Nat) (fun k => k ≤ a.arcs.length) (fun k => [(1, .d (ints to)), (4, .r 4 0), (5, .r 5 0), (6, .r 6 0), (7, .r 7 0), (48, .d (arcsD a.arcs)), (49, I (a.arcs.length)), (50, I (k))]) (fun k => [(90, .own 3 93 ((relTo a to k).map arcC)), (7, .box [I (a.states), I (a.labels), .o 90, I (a.init), .d (ints a.goals)]), (4, .box [I (0), I (0), .d (.v (.slice none 0 0)), I (0), .d (.v (.slice none 0 0))]), (5, .box [I (0), I (0)]), (6, .box [I ((aplF a to).1), I ((aplF a to).2)])]) (fun k => a.arcs.length - k) 0 (by omega) ?_ ?_
        · exact .slot rfl (.refl _) <| .slot rfl (.refl _) <| .slot rfl (.refl _) <| .slot rfl (.refl _) <| .slot rfl (.refl _) <| .slot rfl (.refl _) <| .slot rfl (.refl _) <| .slot rfl (Le.of_eq (by simp)) <| .memEq rfl (by simp [relTo]) <| .mem rfl <| .mem rfl <| .mem rfl <| .mem rfl <| .nil
        · rintro k hkl
          refine Tr.seq ?_
          refine Tr.region ?_
          refine TrOps.sem (OpSem.bin rfl rfl rfl blss) rfl rfl (by decide) ?_
          refine TrOps.nil ?_
          refine At.seq ?_
          refine Tr.seq ?_
          refine Tr.cond rfl (fun c51 => ?_) (fun c51 => ?_)
          · have hk : k < a.arcs.length := by simpa using c51
            have harc := (hA.arc k hk).2.1
            have hrl := relTo_len (to := to) (Nat.le_of_lt hk)
            refine Tr.skip ?_
            refine At.seq ?_
            refine Tr.seq ?_
            refine Tr.block ?_
            refine Tr.seq ?_
            refine Tr.region ?_
            refine TrOps.sem (OpSem.idxL rfl rfl rfl es44 (by omega) (by omega)) rfl rfl (by decide) ?_
            refine TrOps.sem (OpSem.loadN rfl rfl vs93 (by first | decide | simp) rfl) rfl rfl (by decide) ?_
            refine TrOps.semM (OpSem.alloc 9 rfl zc93 rfl) rfl rfl (by decide) ?_
            refine TrOps.storeb rfl rfl rfl rfl rfl rfl rfl vs93 (by first | decide | simp) ?_
            refine TrOps.nil ?_
            refine At.seq ?_
            refine PC.start [] ?_
            refine PC.sem (OpSem.fieldr rfl rfl fo46_2) rfl rfl ?_
            refine PC.sem (OpSem.loadb1 rfl rfl rfl vs44 rfl) rfl rfl ?_
            refine PC.sem (OpSem.fieldr rfl rfl fo93_0) rfl rfl ?_
            refine PC.sem (OpSem.loadb1 rfl rfl rfl vs3 rfl) rfl rfl ?_
            refine PC.sem (OpSem.move (.inl rfl) rfl) rfl rfl ?_
            refine PC.sem (OpSem.fieldr rfl rfl fo93_1) rfl rfl ?_
            refine PC.sem (OpSem.loadb1 rfl rfl rfl vs3 rfl) rfl rfl ?_
            refine PC.sem (OpSem.idxL rfl rfl rfl es22 (by omega) (by omega)) rfl rfl ?_
            refine PC.sem (OpSem.load1 rfl rfl vs3 rfl) rfl rfl ?_
            refine PC.sem (OpSem.fieldr rfl rfl fo93_2) rfl rfl ?_
            refine PC.sem (OpSem.loadb1 rfl rfl rfl vs3 rfl) rfl rfl ?_
            refine PC.sem (OpSem.build rfl rfl pl93 zc93 rfl rfl) rfl rfl ?_
            refine PC.sem (OpSem.buildSlice rfl rfl es44 ze44 rfl rfl (by decide) (by decide) rfl rfl) rfl rfl ?_
            refine PC.done0 mixed (by kernel_rfl) (by kernel_rfl) (by kernel_rfl) (by kernel_rfl) (by kernel_rfl) ?_
            refine TrOps.append rfl rfl rfl (by decide) rfl rfl rfl es44 el44 zc93 rfl by93 (by simp [D.one, Value.oneCell']) (by simp [maxLen]; omega) (by simp; omega) ?_
            refine TrOps.sem (OpSem.fieldr rfl rfl fo46_2) rfl rfl (by decide) ?_
            refine TrOps.storeb rfl rfl rfl rfl rfl rfl rfl vs44 (by first | decide | simp) ?_
            refine TrOps.nil ?_
            refine At.block_normal ?_
            refine At.seq ?_
            refine Tr.region ?_
            refine TrOps.sem (OpSem.bin rfl rfl rfl (badd (by omega) (by omega))) rfl rfl (by decide) ?_
            refine TrOps.sem (OpSem.move (.inl rfl) rfl) rfl rfl (by decide) ?_
            refine TrOps.nil ?_
            refine At.again (k + 1) (by omega) ?_ (by omega)
            exact .slot rfl (.refl _) <| .slot rfl (.refl _) <| .slot rfl (.refl _) <| .slot rfl (.refl _) <| .slot rfl (.refl _) <| .slot rfl (.refl _) <| .slot rfl (.refl _) <| .slot rfl (Le.of_eq (by simp)) <| .memEq rfl (by simp [relTo_s hk]) <| .mem rfl <| .mem rfl <| .mem rfl <| .mem rfl <| .nil
          · have hk : k = a.arcs.length := by simp at c51; omega
            subst hk
            refine Tr.exit ?_
            refine At.pass_exit ?_
            refine At.pass_exit ?_
            refine At.block_same ?_
            refine At.seq ?_
            refine Tr.seq ?_
            refine Tr.orders [[0, 1, 2, 3, 4], [0, 1, 3, 2, 4], [0, 2, 1, 3, 4], [2, 0, 1, 3, 4]] mixed (by kernel_rfl) ⟨?_, ?_, ?_, ?_, trivial⟩
            · refine TrOps.sem (OpSem.loadbN rfl rfl rfl vs46 (by first | decide | simp)) rfl rfl (by decide) ?_
              refine TrOps.callAbs (fun q n c => sorted_all (relTo a to a.arcs.length) a.states a.labels a.init q n c (by simp [relTo]; omega)) rfl rfl rfl (by decide) rfl rfl rfl (plain_arcs _) ?_
              refine TrOps.freeze 90 rfl ?_
              refine TrOps.sem (OpSem.loadbN rfl rfl rfl vs29 (by first | decide | simp)) rfl rfl (by decide) ?_
              refine TrOps.storeb rfl rfl rfl rfl rfl rfl rfl vs46 (by first | decide | simp) ?_
              refine TrOps.storeb rfl rfl rfl rfl rfl rfl rfl vs29 (by first | decide | simp) ?_
              refine TrOps.nil ?_
              refine At.seq ?_
              refine Tr.ret ?_
              exact At.ret rfl (.cellN rfl rfl vs46 <| .cellN rfl rfl vs29 <| .nil) rfl (Le.t (.cons (Le.of_eq (by rw [aplR_0 h1]; rfl)) <| .cons (.refl _) <| .nil))
            · refine TrOps.sem (OpSem.loadbN rfl rfl rfl vs46 (by first | decide | simp)) rfl rfl (by decide) ?_
              refine TrOps.callAbs (fun q n c => sorted_all (relTo a to a.arcs.length) a.states a.labels a.init q n c (by simp [relTo]; omega)) rfl rfl rfl (by decide) rfl rfl rfl (plain_arcs _) ?_
              refine TrOps.freeze 90 rfl ?_
              refine TrOps.storeb rfl rfl rfl rfl rfl rfl rfl vs46 (by first | decide | simp) ?_
              refine TrOps.sem (OpSem.loadbN rfl rfl rfl vs29 (by first | decide | simp)) rfl rfl (by decide) ?_
              refine TrOps.storeb rfl rfl rfl rfl rfl rfl rfl vs29 (by first | decide | simp) ?_
              refine TrOps.nil ?_
              refine At.seq ?_
              refine Tr.ret ?_
              exact At.ret rfl (.cellN rfl rfl vs46 <| .cellN rfl rfl vs29 <| .nil) rfl (Le.t (.cons (Le.of_eq (by rw [aplR_0 h1]; rfl)) <| .cons (.refl _) <| .nil))
            · refine TrOps.sem (OpSem.loadbN rfl rfl rfl vs46 (by first | decide | simp)) rfl rfl (by decide) ?_
              refine TrOps.sem (OpSem.loadbN rfl rfl rfl vs29 (by first | decide | simp)) rfl rfl (by decide) ?_
              refine TrOps.callAbs (fun q n c => sorted_all (relTo a to a.arcs.length) a.states a.labels a.init q n c (by simp [relTo]; omega)) rfl rfl rfl (by decide) rfl rfl rfl (plain_arcs _) ?_
              refine TrOps.freeze 90 rfl ?_
              refine TrOps.storeb rfl rfl rfl rfl rfl rfl rfl vs46 (by first | decide | simp) ?_
              refine TrOps.storeb rfl rfl rfl rfl rfl rfl rfl vs29 (by first | decide | simp) ?_
              refine TrOps.nil ?_
              refine At.seq ?_
              refine Tr.ret ?_
              exact At.ret rfl (.cellN rfl rfl vs46 <| .cellN rfl rfl vs29 <| .nil) rfl (Le.t (.cons (Le.of_eq (by rw [aplR_0 h1]; rfl)) <| .cons (.refl _) <| .nil))
            · refine TrOps.sem (OpSem.loadbN rfl rfl rfl vs29 (by first | decide | simp)) rfl rfl (by decide) ?_
              refine TrOps.sem (OpSem.loadbN rfl rfl rfl vs46 (by first | decide | simp)) rfl rfl (by decide) ?_
              refine TrOps.callAbs (fun q n c => sorted_all (relTo a to a.arcs.length) a.states a.labels a.init q n c (by simp [relTo]; omega)) rfl rfl rfl (by decide) rfl rfl rfl (plain_arcs _) ?_
              refine TrOps.freeze 90 rfl ?_
              refine TrOps.storeb rfl rfl rfl rfl rfl rfl rfl vs46 (by first | decide | simp) ?_
              refine TrOps.storeb rfl rfl rfl rfl rfl rfl rfl vs29 (by first | decide | simp) ?_
              refine TrOps.nil ?_
              refine At.seq ?_
              refine Tr.ret ?_
              exact At.ret rfl (.cellN rfl rfl vs46 <| .cellN rfl rfl vs29 <| .nil) rfl (Le.t (.cons (Le.of_eq (by rw [aplR_0 h1]; rfl)) <| .cons (.refl _) <| .nil))

end Go.Proofs.Ytohlmcebphcokaa
end

section
/- Walks, written by gen.py out of hints. -/




set_option linter.unusedVariables false
set_option linter.unusedSimpArgs false
namespace Go.Proofs.Ytohlmcebphcokaa
open Go.Eng
set_option maxRecDepth 10000
set_option maxHeartbeats 1000000

theorem Q_Abstractions_does (a b : Abs) : Does Try.prog false 29 [absS a, absS b] (Bo (decide (a = b))) := by
  refine Does.of_body Try.func29 rfl rfl (by simp) Try.call29 (fun w0 O0 => ?_)
  refine Tr.lenG (n := 0) (i := 2) rfl rfl (fun len0_2 => ?_)
  refine Tr.lenG (n := 0) (i := 4) rfl rfl (fun len0_4 => ?_)
  refine Tr.lenG (n := 1) (i := 2) rfl rfl (fun len1_2 => ?_)
  refine Tr.lenG (n := 1) (i := 4) rfl rfl (fun len1_4 => ?_)
  refine Tr.seq ?_
  refine Tr.region ?_
  refine TrOps.semM (OpSem.box 2 rfl rfl rfl rfl) rfl rfl (by decide) ?_
  refine TrOps.semM (OpSem.box 3 rfl rfl rfl rfl) rfl rfl (by decide) ?_
  refine TrOps.sem (OpSem.move (.inr rfl) rfl) rfl rfl (by decide) ?_
  refine TrOps.nil ?_
  refine At.seq ?_
  refine Tr.seq ?_
  refine Tr.seq ?_
  refine Tr.region ?_
  refine TrOps.sem (OpSem.fieldr rfl rfl fo46_0) rfl rfl (by decide) ?_
  refine TrOps.sem (OpSem.loadb1 rfl rfl rfl vs3 rfl) rfl rfl (by decide) ?_
  refine TrOps.sem (OpSem.fieldr rfl rfl fo46_0) rfl rfl (by decide) ?_
  refine TrOps.sem (OpSem.loadb1 rfl rfl rfl vs3 rfl) rfl rfl (by decide) ?_
  refine TrOps.sem (OpSem.bin rfl rfl rfl bneq) rfl rfl (by decide) ?_
  refine TrOps.sem (OpSem.move (.inl rfl) rfl) rfl rfl (by decide) ?_
  refine TrOps.split (n := 11) rfl (fun c11 => ?_) (fun c11 => ?_)
  · refine TrOps.gF rfl rfl rfl rfl c11 rfl (by decide) ?_
    refine TrOps.gF rfl rfl rfl rfl c11 rfl (by decide) ?_
    refine TrOps.gF rfl rfl rfl rfl c11 rfl (by decide) ?_
    refine TrOps.gF rfl rfl rfl rfl c11 rfl (by decide) ?_
    refine TrOps.gF rfl rfl rfl rfl c11 rfl (by decide) ?_
    refine TrOps.sem (OpSem.pickT rfl rfl c11 rfl) rfl rfl (by decide) ?_
    refine TrOps.sem (OpSem.move (.inl rfl) rfl) rfl rfl (by decide) ?_
    refine TrOps.gF rfl rfl rfl rfl rfl rfl (by decide) ?_
    refine TrOps.gF rfl rfl rfl rfl rfl rfl (by decide) ?_
    refine TrOps.gF rfl rfl rfl rfl rfl rfl (by decide) ?_
    refine TrOps.gF rfl rfl rfl rfl rfl rfl (by decide) ?_
    refine TrOps.gF rfl rfl rfl rfl rfl rfl (by decide) ?_
    refine TrOps.sem (OpSem.pickT rfl rfl rfl rfl) rfl rfl (by decide) ?_
    refine TrOps.sem (OpSem.move (.inl rfl) rfl) rfl rfl (by decide) ?_
    refine TrOps.gF rfl rfl rfl rfl rfl rfl (by decide) ?_
    refine TrOps.gF rfl rfl rfl rfl rfl rfl (by decide) ?_
    refine TrOps.gF rfl rfl rfl rfl rfl rfl (by decide) ?_
    refine TrOps.gF rfl rfl rfl rfl rfl rfl (by decide) ?_
    refine TrOps.gF rfl rfl rfl rfl rfl rfl (by decide) ?_
    refine TrOps.gF rfl rfl rfl rfl rfl rfl (by decide) ?_
    refine TrOps.sem (OpSem.pickT rfl rfl rfl rfl) rfl rfl (by decide) ?_
    refine TrOps.sem (OpSem.move (.inl rfl) rfl) rfl rfl (by decide) ?_
    refine TrOps.gF rfl rfl rfl rfl rfl rfl (by decide) ?_
    refine TrOps.gF rfl rfl rfl rfl rfl rfl (by decide) ?_
    refine TrOps.gF rfl rfl rfl rfl rfl rfl (by decide) ?_
    refine TrOps.gF rfl rfl rfl rfl rfl rfl (by decide) ?_
    refine TrOps.gF rfl rfl rfl rfl rfl rfl (by decide) ?_
    refine TrOps.gF rfl rfl rfl rfl rfl rfl (by decide) ?_
    refine TrOps.gF rfl rfl rfl rfl rfl rfl (by decide) ?_
    refine TrOps.sem (OpSem.pickT rfl rfl rfl rfl) rfl rfl (by decide) ?_
    refine TrOps.nil ?_
    refine At.seq ?_
    refine Tr.condT rfl rfl ?_
    refine Tr.seq ?_
    refine Tr.region ?_
    refine TrOps.sem (OpSem.move (.inr rfl) rfl) rfl rfl (by decide) ?_
    refine TrOps.nil ?_
    refine At.seq ?_
    refine Tr.ret ?_
    refine At.pass_ret ?_
    exact At.ret rfl (.tmp rfl <| .nil) rfl (Le.bo (decide_eq_false (fun e => by subst e; simp at c11)).symm)
  · refine TrOps.gT rfl rfl rfl rfl c11 ?_
    refine TrOps.sem (OpSem.fieldr rfl rfl fo46_1) rfl rfl (by decide) ?_
    refine TrOps.gT rfl rfl rfl rfl c11 ?_
    refine TrOps.sem (OpSem.loadb1 rfl rfl rfl vs3 rfl) rfl rfl (by decide) ?_
    refine TrOps.gT rfl rfl rfl rfl c11 ?_
    refine TrOps.sem (OpSem.fieldr rfl rfl fo46_1) rfl rfl (by decide) ?_
    refine TrOps.gT rfl rfl rfl rfl c11 ?_
    refine TrOps.sem (OpSem.loadb1 rfl rfl rfl vs3 rfl) rfl rfl (by decide) ?_
    refine TrOps.gT rfl rfl rfl rfl c11 ?_
    refine TrOps.sem (OpSem.bin rfl rfl rfl bneq) rfl rfl (by decide) ?_
    refine TrOps.sem (OpSem.pickF rfl rfl c11 rfl) rfl rfl (by decide) ?_
    refine TrOps.sem (OpSem.move (.inl rfl) rfl) rfl rfl (by decide) ?_
    refine TrOps.split (n := 18) rfl (fun c18 => ?_) (fun c18 => ?_)
    · refine TrOps.gF rfl rfl rfl rfl c18 rfl (by decide) ?_
      refine TrOps.gF rfl rfl rfl rfl c18 rfl (by decide) ?_
      refine TrOps.gF rfl rfl rfl rfl c18 rfl (by decide) ?_
      refine TrOps.gF rfl rfl rfl rfl c18 rfl (by decide) ?_
      refine TrOps.gF rfl rfl rfl rfl c18 rfl (by decide) ?_
      refine TrOps.sem (OpSem.pickT rfl rfl c18 rfl) rfl rfl (by decide) ?_
      refine TrOps.sem (OpSem.move (.inl rfl) rfl) rfl rfl (by decide) ?_
      refine TrOps.gF rfl rfl rfl rfl rfl rfl (by decide) ?_
      refine TrOps.gF rfl rfl rfl rfl rfl rfl (by decide) ?_
      refine TrOps.gF rfl rfl rfl rfl rfl rfl (by decide) ?_
      refine TrOps.gF rfl rfl rfl rfl rfl rfl (by decide) ?_
      refine TrOps.gF rfl rfl rfl rfl rfl rfl (by decide) ?_
      refine TrOps.gF rfl rfl rfl rfl rfl rfl (by decide) ?_
      refine TrOps.sem (OpSem.pickT rfl rfl rfl rfl) rfl rfl (by decide) ?_
      refine TrOps.sem (OpSem.move (.inl rfl) rfl) rfl rfl (by decide) ?_
      refine TrOps.gF rfl rfl rfl rfl rfl rfl (by decide) ?_
      refine TrOps.gF rfl rfl rfl rfl rfl rfl (by decide) ?_
      refine TrOps.gF rfl rfl rfl rfl rfl rfl (by decide) ?_
      refine TrOps.gF rfl rfl rfl rfl rfl rfl (by decide) ?_
      refine TrOps.gF rfl rfl rfl rfl rfl rfl (by decide) ?_
      refine TrOps.gF rfl rfl rfl rfl rfl rfl (by decide) ?_
      refine TrOps.gF rfl rfl rfl rfl rfl rfl (by decide) ?_
      refine TrOps.sem (OpSem.pickT rfl rfl rfl rfl) rfl rfl (by decide) ?_
      refine TrOps.nil ?_
      refine At.seq ?_
      refine Tr.condT rfl rfl ?_
      refine Tr.seq ?_
      refine Tr.region ?_
      refine TrOps.sem (OpSem.move (.inr rfl) rfl) rfl rfl (by decide) ?_
      refine TrOps.nil ?_
      refine At.seq ?_
      refine Tr.ret ?_
      refine At.pass_ret ?_
      exact At.ret rfl (.tmp rfl <| .nil) rfl (Le.bo (decide_eq_false (fun e => by subst e; simp at c18)).symm)
    · refine TrOps.gT rfl rfl rfl rfl c18 ?_
      refine TrOps.sem (OpSem.fieldr rfl rfl fo46_3) rfl rfl (by decide) ?_
      refine TrOps.gT rfl rfl rfl rfl c18 ?_
      refine TrOps.sem (OpSem.loadb1 rfl rfl rfl vs3 rfl) rfl rfl (by decide) ?_
      refine TrOps.gT rfl rfl rfl rfl c18 ?_
      refine TrOps.sem (OpSem.fieldr rfl rfl fo46_3) rfl rfl (by decide) ?_
      refine TrOps.gT rfl rfl rfl rfl c18 ?_
      refine TrOps.sem (OpSem.loadb1 rfl rfl rfl vs3 rfl) rfl rfl (by decide) ?_
      refine TrOps.gT rfl rfl rfl rfl c18 ?_
      refine TrOps.sem (OpSem.bin rfl rfl rfl bneq) rfl rfl (by decide) ?_
      refine TrOps.sem (OpSem.pickF rfl rfl c18 rfl) rfl rfl (by decide) ?_
      refine TrOps.sem (OpSem.move (.inl rfl) rfl) rfl rfl (by decide) ?_
      refine TrOps.split (n := 25) rfl (fun c25 => ?_) (fun c25 => ?_)
      · refine TrOps.gF rfl rfl rfl rfl c25 rfl (by decide) ?_
        refine TrOps.gF rfl rfl rfl rfl c25 rfl (by decide) ?_
        refine TrOps.gF rfl rfl rfl rfl c25 rfl (by decide) ?_
        refine TrOps.gF rfl rfl rfl rfl c25 rfl (by decide) ?_
        refine TrOps.gF rfl rfl rfl rfl c25 rfl (by decide) ?_
        refine TrOps.gF rfl rfl rfl rfl c25 rfl (by decide) ?_
        refine TrOps.sem (OpSem.pickT rfl rfl c25 rfl) rfl rfl (by decide) ?_
        refine TrOps.sem (OpSem.move (.inl rfl) rfl) rfl rfl (by decide) ?_
        refine TrOps.gF rfl rfl rfl rfl rfl rfl (by decide) ?_
        refine TrOps.gF rfl rfl rfl rfl rfl rfl (by decide) ?_
        refine TrOps.gF rfl rfl rfl rfl rfl rfl (by decide) ?_
        refine TrOps.gF rfl rfl rfl rfl rfl rfl (by decide) ?_
        refine TrOps.gF rfl rfl rfl rfl rfl rfl (by decide) ?_
        refine TrOps.gF rfl rfl rfl rfl rfl rfl (by decide) ?_
        refine TrOps.gF rfl rfl rfl rfl rfl rfl (by decide) ?_
        refine TrOps.sem (OpSem.pickT rfl rfl rfl rfl) rfl rfl (by decide) ?_
        refine TrOps.nil ?_
        refine At.seq ?_
        refine Tr.condT rfl rfl ?_
        refine Tr.seq ?_
        refine Tr.region ?_
        refine TrOps.sem (OpSem.move (.inr rfl) rfl) rfl rfl (by decide) ?_
        refine TrOps.nil ?_
        refine At.seq ?_
        refine Tr.ret ?_
        refine At.pass_ret ?_
        exact At.ret rfl (.tmp rfl <| .nil) rfl (Le.bo (decide_eq_false (fun e => by subst e; simp at c25)).symm)
      · refine TrOps.gT rfl rfl rfl rfl c25 ?_
        refine TrOps.sem (OpSem.fieldr rfl rfl fo46_4) rfl rfl (by decide) ?_
        refine TrOps.gT rfl rfl rfl rfl c25 ?_
        refine TrOps.sem (OpSem.loadb1 rfl rfl rfl vs22 rfl) rfl rfl (by decide) ?_
        refine TrOps.gT rfl rfl rfl rfl c25 ?_
        refine TrOps.sem (OpSem.fieldr rfl rfl fo46_4) rfl rfl (by decide) ?_
        refine TrOps.gT rfl rfl rfl rfl c25 ?_
        refine TrOps.sem (OpSem.loadb1 rfl rfl rfl vs22 rfl) rfl rfl (by decide) ?_
        refine TrOps.gT rfl rfl rfl rfl c25 ?_
        refine TrOps.sem (OpSem.call0 (R_Ints_does a.goals b.goals) rfl rfl rfl rfl (Les.refl _)) rfl rfl (by decide) ?_
        refine TrOps.gT rfl rfl rfl rfl c25 ?_
        refine TrOps.sem (OpSem.not rfl rfl) rfl rfl (by decide) ?_
        refine TrOps.sem (OpSem.pickF rfl rfl c25 rfl) rfl rfl (by decide) ?_
        refine TrOps.sem (OpSem.move (.inl rfl) rfl) rfl rfl (by decide) ?_
        refine TrOps.split (n := 33) rfl (fun c33 => ?_) (fun c33 => ?_)
        · refine TrOps.gF rfl rfl rfl rfl c33 rfl (by decide) ?_
          refine TrOps.gF rfl rfl rfl rfl c33 rfl (by decide) ?_
          refine TrOps.gF rfl rfl rfl rfl c33 rfl (by decide) ?_
          refine TrOps.gF rfl rfl rfl rfl c33 rfl (by decide) ?_
          refine TrOps.gF rfl rfl rfl rfl c33 rfl (by decide) ?_
          refine TrOps.gF rfl rfl rfl rfl c33 rfl (by decide) ?_
          refine TrOps.gF rfl rfl rfl rfl c33 rfl (by decide) ?_
          refine TrOps.sem (OpSem.pickT rfl rfl c33 rfl) rfl rfl (by decide) ?_
          refine TrOps.nil ?_
          refine At.seq ?_
          refine Tr.condT rfl rfl ?_
          refine Tr.seq ?_
          refine Tr.region ?_
          refine TrOps.sem (OpSem.move (.inr rfl) rfl) rfl rfl (by decide) ?_
          refine TrOps.nil ?_
          refine At.seq ?_
          refine Tr.ret ?_
          refine At.pass_ret ?_
          exact At.ret rfl (.tmp rfl <| .nil) rfl (Le.bo (decide_eq_false (fun e => by subst e; simp at c33)).symm)
        · refine TrOps.gT rfl rfl rfl rfl c33 ?_
          refine TrOps.sem (OpSem.fieldr rfl rfl fo46_2) rfl rfl (by decide) ?_
          refine TrOps.gT rfl rfl rfl rfl c33 ?_
          refine TrOps.sem (OpSem.loadb1 rfl rfl rfl vs44 rfl) rfl rfl (by decide) ?_
          refine TrOps.gT rfl rfl rfl rfl c33 ?_
          refine TrOps.sem (OpSem.lenL rfl rfl es44) rfl rfl (by decide) ?_
          refine TrOps.gT rfl rfl rfl rfl c33 ?_
          refine TrOps.sem (OpSem.fieldr rfl rfl fo46_2) rfl rfl (by decide) ?_
          refine TrOps.gT rfl rfl rfl rfl c33 ?_
          refine TrOps.sem (OpSem.loadb1 rfl rfl rfl vs44 rfl) rfl rfl (by decide) ?_
          refine TrOps.gT rfl rfl rfl rfl c33 ?_
          refine TrOps.sem (OpSem.lenL rfl rfl es44) rfl rfl (by decide) ?_
          refine TrOps.gT rfl rfl rfl rfl c33 ?_
          refine TrOps.sem (OpSem.bin rfl rfl rfl bneq) rfl rfl (by decide) ?_
          refine TrOps.sem (OpSem.pickF rfl rfl c33 rfl) rfl rfl (by decide) ?_
          refine TrOps.nil ?_
          refine At.seq ?_
          refine Tr.cond rfl (fun c41 => ?_) (fun c41 => ?_)
          · refine Tr.seq ?_
            refine Tr.region ?_
            refine TrOps.sem (OpSem.move (.inr rfl) rfl) rfl rfl (by decide) ?_
            refine TrOps.nil ?_
            refine At.seq ?_
            refine Tr.ret ?_
            refine At.pass_ret ?_
            exact At.ret rfl (.tmp rfl <| .nil) rfl (Le.bo (decide_eq_false (fun e => by subst e; simp at c41)).symm)
          · have hl : a.arcs.length = b.arcs.length := by simp at c41; omega
            refine Tr.skip ?_
            refine At.seq ?_
            refine Tr.seq ?_
            refine Tr.seq ?_
            refine Tr.region ?_
            refine TrOps.sem (OpSem.move (.inr rfl) rfl) rfl rfl (by decide) ?_
            refine TrOps.nil ?_
            refine At.seq ?_
            refine Tr.block ?_
            refine Tr.loop (X := Nat) (fun k => k ≤ a.arcs.length ∧ ∀ i : Nat, i < k → nth a.arcs i = nth b.arcs i) (fun k => [(2, .r 2 0), (3, .r 3 0), (5, I (k))]) (fun k => [(2, .box [I (a.states), I (a.labels), .d (arcsD a.arcs), I (a.init), .d (ints a.goals)]), (3, .box [I (b.states), I (b.labels), .d (arcsD b.arcs), I (b.init), .d (ints b.goals)])]) (fun k => a.arcs.length - k) 0 ⟨by omega, by simp⟩ ?_ ?_
            · exact .slot rfl (.refl _) <| .slot rfl (.refl _) <| .slot rfl (Le.of_eq (by simp)) <| .mem rfl <| .mem rfl <| .nil
            · rintro k ⟨hkl, hinv⟩
              refine Tr.seq ?_
              refine Tr.seq ?_
              refine Tr.region ?_
              refine TrOps.sem (OpSem.move (.inl rfl) rfl) rfl rfl (by decide) ?_
              refine TrOps.sem (OpSem.fieldr rfl rfl fo46_2) rfl rfl (by decide) ?_
              refine TrOps.sem (OpSem.loadb1 rfl rfl rfl vs44 rfl) rfl rfl (by decide) ?_
              refine TrOps.sem (OpSem.lenL rfl rfl es44) rfl rfl (by decide) ?_
              refine TrOps.sem (OpSem.bin rfl rfl rfl blss) rfl rfl (by decide) ?_
              refine TrOps.nil ?_
              refine At.seq ?_
              refine Tr.cond rfl (fun c46 => ?_) (fun c46 => ?_)
              · have hk : k < a.arcs.length := by simpa using c46
                refine Tr.skip ?_
                refine At.seq ?_
                refine Tr.seq ?_
                refine Tr.block ?_
                refine Tr.seq ?_
                refine PC.start [] ?_
                refine PC.sem (OpSem.fieldr rfl rfl fo46_2) rfl rfl ?_
                refine PC.sem (OpSem.loadb1 rfl rfl rfl vs44 rfl) rfl rfl ?_
                refine PC.sem (OpSem.move (.inl rfl) rfl) rfl rfl ?_
                refine PC.sem (OpSem.idxL rfl rfl rfl es44 (by omega) (by omega)) rfl rfl ?_
                refine PC.sem (OpSem.loadN rfl rfl vs93 (by first | decide | simp) rfl) rfl rfl ?_
                refine PC.sem (OpSem.fieldr rfl rfl fo46_2) rfl rfl ?_
                refine PC.sem (OpSem.loadb1 rfl rfl rfl vs44 rfl) rfl rfl ?_
                refine PC.sem (OpSem.move (.inl rfl) rfl) rfl rfl ?_
                refine PC.sem (OpSem.idxL rfl rfl rfl es44 (by omega) (by omega)) rfl rfl ?_
                refine PC.sem (OpSem.loadN rfl rfl vs93 (by first | decide | simp) rfl) rfl rfl ?_
                refine PC.done0 mixed (by kernel_rfl) (by kernel_rfl) (by kernel_rfl) (by kernel_rfl) (by kernel_rfl) ?_
                refine TrOps.sem (OpSem.neS3 rfl rfl rfl io93) rfl rfl (by decide) ?_
                refine TrOps.nil ?_
                refine At.seq ?_
                refine Tr.cond rfl (fun c59 => ?_) (fun c59 => ?_)
                · refine Tr.seq ?_
                  refine Tr.region ?_
                  refine TrOps.sem (OpSem.move (.inr rfl) rfl) rfl rfl (by decide) ?_
                  refine TrOps.nil ?_
                  refine At.seq ?_
                  refine Tr.ret ?_
                  refine At.block_ret ?_
                  refine At.pass_ret ?_
                  refine At.pass_ret ?_
                  refine At.block_ret ?_
                  refine At.pass_ret ?_
                  exact At.ret rfl (.tmp rfl <| .nil) rfl (Le.bo (decide_eq_false (fun e => by subst e; simp at c59)).symm)
                · have hb : nth a.arcs k = nth b.arcs k := arc_ext (by simp at c59; exact c59.1) (by simp at c59; exact c59.2.1) (by simp at c59; exact c59.2.2)
                  refine Tr.skip ?_
                  refine At.block_normal ?_
                  refine At.seq ?_
                  refine Tr.region ?_
                  refine TrOps.sem (OpSem.move (.inl rfl) rfl) rfl rfl (by decide) ?_
                  refine TrOps.sem (OpSem.bin rfl rfl rfl (badd (by omega) (by omega))) rfl rfl (by decide) ?_
                  refine TrOps.sem (OpSem.move (.inr rfl) rfl) rfl rfl (by decide) ?_
                  refine TrOps.nil ?_
                  refine At.again (k + 1) ⟨by omega, all_succ hinv hb⟩ ?_ (by omega)
                  exact .slot rfl (.refl _) <| .slot rfl (.refl _) <| .slot rfl (Le.of_eq (by simp)) <| .mem rfl <| .mem rfl <| .nil
              · have hk : k = a.arcs.length := by simp at c46; omega
                refine Tr.exit ?_
                refine At.pass_exit ?_
                refine At.pass_exit ?_
                refine At.block_same ?_
                refine At.seq ?_
                refine Tr.seq ?_
                refine Tr.region ?_
                refine TrOps.sem (OpSem.move (.inr rfl) rfl) rfl rfl (by decide) ?_
                refine TrOps.nil ?_
                refine At.seq ?_
                refine Tr.ret ?_
                exact At.ret rfl (.tmp rfl <| .nil) rfl (Le.bo (decide_eq_true (abs_ext (by simpa using c11) (by simpa using c18) (ext_get (by simp at c41; omega) (by subst hk; exact hinv)) (by simpa using c25) (by simpa using c33))).symm)

end Go.Proofs.Ytohlmcebphcokaa
end
