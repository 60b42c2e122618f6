/- The engine and the walks that this claim uses, part 12. Written by prune.py out of our own texts. -/
import Derived.Test.YtlidcpmdgceboaaE11
set_option linter.unusedSimpArgs false
set_option linter.unnecessarySimpa false
set_option linter.unusedVariables false
set_option linter.unusedSectionVars false
section
/- Walks, written by gen.py out of hints. -/



namespace Go.Proofs.Ytlidcpmdgceboaa
open Go.Eng
set_option maxRecDepth 10000
set_option maxHeartbeats 1000000

noncomputable abbrev co5E (R : Mx) (b : List Int) (n : Nat) (w : Bool) (k : Nat) : Env := [(0, .d (rows R)), (1, .d (ints b)), (2, I (n)), (3, Bo (w)), (10, I (k))]
noncomputable abbrev co5M (R : Mx) (b : List Int) (n : Nat) (w : Bool) (k : Nat) : Mem := []
theorem S3_corners_does (R : Mx) (b : List Int) (n : Nat) (w : Bool) (hA : AlP (alM R b n) (fxR n w) n) (hb : R.length ≤ b.length) (hw : ∀ i : Nat, i < R.length → (nth R i).length = n) : Does Try.prog false 43 [.d (rows R), .d (ints b), I (n), Bo (w)] (.d (vecsD (coF (alM R b n) (fxR n w) n))) := by
 have hn6 := hA.n6
 have hFl := hA.f
 have hAl := hA.l
 have hlen := alM_len (R := R) (b := b) (n := n)
 have hAr : ∀ i : Nat, i < (alM R b n).length → (nth (alM R b n) i).length = n + 1 ∧ ∀ x, x ∈ nth (alM R b n) i → -1 ≤ x ∧ x ≤ 1 := fun i hi => hA.r _ (.inl (nth_mem (by omega) (by omega)))
 have hP : 2 ^ (alM R b n).length ≤ 2 ^ 12 := Nat.pow_le_pow_right (by omega) hAl
 refine Does.of_body Try.func43 rfl rfl (by simp) Try.call43 (fun w0 O0 => ?_); refine .lenLe (n := 0) rfl (fun len0 => ?_); refine .lenLe (n := 1) rfl (fun len1 => ?_); refine .seq ?_; refine .region ?_; refine .a ?_; refine .z ?_; refine .a ?_; refine .sq ?_; refine .seq ?_; refine .seq ?_; refine .ownNil (n := 9) 9 1 22 rfl ?_; refine .region ?_; refine .a ?_; refine .sq ?_; refine .block ?_; refine .loop (X := Nat) (fun k => k ≤ R.length) (fun k => [(0, .d (rows R)), (1, .d (ints b)), (2, I (n)), (3, Bo (w)), (9, .o 9), (10, I (k))]) (fun k => [(9, .own 1 22 (((alM R b n).take k).map fun r => [ints r]))]) (fun k => R.length - k) 0 (by omega) ?_ ?_
 ·exact .sl <| .sl <| .sl <| .sl <| .sl <| .slot rfl (Le.of_eq (by simp)) <| .memEq rfl (by simp <;> rfl) <| .nil
 ·rintro k hkl
  refine .seq ?_; refine .seq ?_; refine .region ?_; refine .m ?_; refine .m ?_; refine .x (OpSem.lenL rfl rfl es37) ?_; refine .x (.b blss) ?_; refine .sq ?_; refine .cond rfl (fun c27 => ?_) (fun c27 => ?_)
  ·have hk : k < R.length := by simpa using c27
   have hrw := hw k hk
   refine .skip ?_; refine .seq ?_; refine .seq ?_; refine .block ?_; refine .lattice 15 [Ff, Ff, Ff, Ff, Ff, Ff, Ff, Ff, Ff, Ff, Ff, Ff, Ff, Ff, Ff] mixed rfl rfl ?_; refine .share 0 [Tt, Tt, Tt, Tt, Tt, Tt, Tt, Tt, Tt, Tt, Tt, Tt, Tt, Tt, Tt] ((9, .o 9) :: co5E R b n w k) ((9, .own 1 22 (((alM R b n).take (k + 1)).map fun r => [ints r])) :: co5M R b n w k) ?_ (fun h_103 => ?_)
   ·refine .fin (by kernel_rfl) ?_; refine .block_normal ?_; refine .y ?_; refine .m ?_; refine .x .ad ?_; refine .a ?_; refine .nil ?_; refine .again (k + 1) (by omega) ?_ (by omega); exact .sl <| .sl <| .sl <| .sl <| .sl <| .slot rfl (Le.of_eq (by simp)) <| .mem rfl <| .nil
   refine .share 1 [Tt, Tt, Tt, Tt, Tt, Tt, Tt, Tt, Tt, Tt, Tt, Tt, Tt, Tt, Ff] ((43, .o 9) :: co5E R b n w k) ((9, .own 1 22 (((alM R b n).take (k + 1)).map fun r => [ints r])) :: co5M R b n w k) ?_ (fun h_102 => ?_)
   ·refine .st [14] ⟨?_, trivial⟩
    ·refine ⟨_, rfl, ?_⟩
     refine .a ?_; exact .j h_103
   refine .share 2 [Tt, Tt, Tt, Tt, Tt, Tt, Tt, Tt, Tt, Tt, Tt, Tt, Tt, Ff, Ff] ((9, .o 9) :: (30, .o 9) :: (42, .d (.s 1 [[ints (nth R k ++ [nth b k])]])) :: co5E R b n w k) ((9, .own 1 22 (((alM R b n).take k).map fun r => [ints r])) :: co5M R b n w k) ?_ (fun h_101 => ?_)
   ·refine .st [13] ⟨?_, trivial⟩
    ·refine ⟨_, rfl, ?_⟩
     refine .ap es37 el37 zc22 by22 ?_; exact TrL.join h_102 rfl (.sl <| .sl <| .sl <| .sl <| .sl <| .sl <| .memEq rfl (by rw [al_tk1 hk]; simp) <| .nil)
   refine .share 3 [Tt, Tt, Tt, Tt, Tt, Tt, Tt, Tt, Tt, Tt, Tt, Tt, Ff, Ff, Ff] ((9, .o 9) :: (30, .o 9) :: (41, .o 35) :: co5E R b n w k) ((9, .own 1 22 (((alM R b n).take k).map fun r => [ints r])) :: (35, .own 1 3 ((nth R k ++ [nth b k]).map fun n => [D.v (.int .i64 n)])) :: co5M R b n w k) ?_ (fun h_99 => ?_)
   ·refine .st [12] ⟨?_, trivial⟩
    ·refine ⟨_, rfl, ?_⟩
     refine .freeze 35 rfl ?_; refine .x (.bs es37 ze37) ?_; exact .j h_101
   refine .share 3 [Ff, Tt, Tt, Tt, Tt, Tt, Tt, Tt, Tt, Tt, Tt, Tt, Tt, Ff, Ff] ((9, .o 9) :: (42, .d (.s 1 [[ints (nth R k ++ [nth b k])]])) :: co5E R b n w k) ((9, .own 1 22 (((alM R b n).take k).map fun r => [ints r])) :: co5M R b n w k) ?_ (fun h_100 => ?_)
   ·refine .st [0] ⟨?_, trivial⟩
    ·refine ⟨_, rfl, ?_⟩
     refine .m ?_; exact .j h_101
   refine .share 4 [Tt, Tt, Tt, Tt, Tt, Tt, Tt, Tt, Tt, Tt, Tt, Ff, Ff, Ff, Ff] ((9, .o 9) :: (30, .o 9) :: (35, .o 35) :: (40, .d (.s 1 [[.v (.int .i64 (nth b k))]])) :: co5E R b n w k) ((9, .own 1 22 (((alM R b n).take k).map fun r => [ints r])) :: (35, .own 1 3 ((nth R k).map fun n => [D.v (.int .i64 n)])) :: co5M R b n w k) ?_ (fun h_97 => ?_)
   ·refine .st [11] ⟨?_, trivial⟩
    ·refine ⟨_, rfl, ?_⟩
     refine .ap es22 el22 zc3 by3 ?_; exact TrL.join h_99 rfl (.sl <| .sl <| .sl <| .sl <| .sl <| .sl <| .sl <| .sl <| .mem rfl <| .memEq rfl (by simp) <| .nil)
   refine .share 4 [Ff, Tt, Tt, Tt, Tt, Tt, Tt, Tt, Tt, Tt, Tt, Tt, Ff, Ff, Ff] ((9, .o 9) :: (41, .o 35) :: co5E R b n w k) ((9, .own 1 22 (((alM R b n).take k).map fun r => [ints r])) :: (35, .own 1 3 ((nth R k ++ [nth b k]).map fun n => [D.v (.int .i64 n)])) :: co5M R b n w k) ?_ (fun h_98 => ?_)
   ·refine .st [0, 12] ⟨?_, ?_, trivial⟩
    ·refine ⟨_, rfl, ?_⟩
     refine .m ?_; exact .j h_99
    ·refine ⟨_, rfl, ?_⟩
     refine .freeze 35 rfl ?_; refine .x (.bs es37 ze37) ?_; exact .j h_100
   refine .share 5 [Tt, Tt, Tt, Tt, Tt, Tt, Tt, Tt, Tt, Tt, Ff, Ff, Ff, Ff, Ff] ((9, .o 9) :: (30, .o 9) :: (35, .o 35) :: (39, I ((nth b k))) :: co5E R b n w k) ((9, .own 1 22 (((alM R b n).take k).map fun r => [ints r])) :: (35, .own 1 3 ((nth R k).map fun n => [D.v (.int .i64 n)])) :: co5M R b n w k) ?_ (fun h_94 => ?_)
   ·refine .st [10] ⟨?_, trivial⟩
    ·refine ⟨_, rfl, ?_⟩
     refine .x (.bs es22 ze22) ?_; exact .j h_97
   refine .share 5 [Tt, Tt, Tt, Tt, Tt, Ff, Tt, Tt, Tt, Tt, Tt, Ff, Ff, Ff, Ff] ((9, .o 9) :: (30, .o 9) :: (34, .d (ints (nth R k))) :: (40, .d (.s 1 [[.v (.int .i64 (nth b k))]])) :: co5E R b n w k) ((9, .own 1 22 (((alM R b n).take k).map fun r => [ints r])) :: co5M R b n w k) ?_ (fun h_95 => ?_)
   ·refine .st [5] ⟨?_, trivial⟩
    ·refine ⟨_, rfl, ?_⟩
     refine .semM (OpSem.appendNil 35 rfl rfl rfl es22 el22 zc3 rfl (by decide) by3 (fun r hr => by obtain ⟨x, _, rfl⟩ := List.mem_map.1 hr; rfl) (by simp [maxLen]; omega) (by simp; omega)) rfl rfl (by decide) ?_; exact .j h_97
   refine .share 5 [Ff, Tt, Tt, Tt, Tt, Tt, Tt, Tt, Tt, Tt, Tt, Ff, Ff, Ff, Ff] ((9, .o 9) :: (35, .o 35) :: (40, .d (.s 1 [[.v (.int .i64 (nth b k))]])) :: co5E R b n w k) ((9, .own 1 22 (((alM R b n).take k).map fun r => [ints r])) :: (35, .own 1 3 ((nth R k).map fun n => [D.v (.int .i64 n)])) :: co5M R b n w k) ?_ (fun h_96 => ?_)
   ·refine .st [0, 11] ⟨?_, ?_, trivial⟩
    ·refine ⟨_, rfl, ?_⟩
     refine .m ?_; exact .j h_97
    ·refine ⟨_, rfl, ?_⟩
     refine .ap es22 el22 zc3 by3 ?_; exact TrL.join h_98 rfl (.sl <| .sl <| .sl <| .sl <| .sl <| .sl <| .sl <| .mem rfl <| .memEq rfl (by simp) <| .nil)
   refine .share 6 [Tt, Tt, Tt, Tt, Tt, Tt, Tt, Tt, Tt, Ff, Ff, Ff, Ff, Ff, Ff] ((9, .o 9) :: (30, .o 9) :: (35, .o 35) :: (38, .p [.v (.int .i64 (nth b k))]) :: co5E R b n w k) ((9, .own 1 22 (((alM R b n).take k).map fun r => [ints r])) :: (35, .own 1 3 ((nth R k).map fun n => [D.v (.int .i64 n)])) :: co5M R b n w k) ?_ (fun h_89 => ?_)
   ·refine .st [9] ⟨?_, trivial⟩
    ·refine ⟨_, rfl, ?_⟩
     refine .x (OpSem.load1 rfl rfl vs3 rfl) ?_; exact .j h_94
   refine .share 6 [Tt, Tt, Tt, Tt, Tt, Ff, Tt, Tt, Tt, Tt, Ff, Ff, Ff, Ff, Ff] ((9, .o 9) :: (30, .o 9) :: (34, .d (ints (nth R k))) :: (39, I ((nth b k))) :: co5E R b n w k) ((9, .own 1 22 (((alM R b n).take k).map fun r => [ints r])) :: co5M R b n w k) ?_ (fun h_90 => ?_)
   ·refine .st [5, 10] ⟨?_, ?_, trivial⟩
    ·refine ⟨_, rfl, ?_⟩
     refine .semM (OpSem.appendNil 35 rfl rfl rfl es22 el22 zc3 rfl (by decide) by3 (fun r hr => by obtain ⟨x, _, rfl⟩ := List.mem_map.1 hr; rfl) (by simp [maxLen]; omega) (by simp; omega)) rfl rfl (by decide) ?_; exact .j h_94
    ·refine ⟨_, rfl, ?_⟩
     refine .x (.bs es22 ze22) ?_; exact .j h_95
   refine .share 6 [Tt, Tt, Tt, Tt, Ff, Ff, Tt, Tt, Tt, Tt, Tt, Ff, Ff, Ff, Ff] ((9, .o 9) :: (30, .o 9) :: (33, .p [ints (nth R k)]) :: (40, .d (.s 1 [[.v (.int .i64 (nth b k))]])) :: co5E R b n w k) ((9, .own 1 22 (((alM R b n).take k).map fun r => [ints r])) :: co5M R b n w k) ?_ (fun h_91 => ?_)
   ·refine .st [4] ⟨?_, trivial⟩
    ·refine ⟨_, rfl, ?_⟩
     refine .x (OpSem.load1 rfl rfl vs22 rfl) ?_; exact .j h_95
   refine .share 6 [Ff, Tt, Tt, Tt, Tt, Tt, Tt, Tt, Tt, Tt, Ff, Ff, Ff, Ff, Ff] ((9, .o 9) :: (35, .o 35) :: (39, I ((nth b k))) :: co5E R b n w k) ((9, .own 1 22 (((alM R b n).take k).map fun r => [ints r])) :: (35, .own 1 3 ((nth R k).map fun n => [D.v (.int .i64 n)])) :: co5M R b n w k) ?_ (fun h_92 => ?_)
   ·refine .st [0, 10] ⟨?_, ?_, trivial⟩
    ·refine ⟨_, rfl, ?_⟩
     refine .m ?_; exact .j h_94
    ·refine ⟨_, rfl, ?_⟩
     refine .x (.bs es22 ze22) ?_; exact .j h_96
   refine .share 6 [Ff, Tt, Tt, Tt, Tt, Ff, Tt, Tt, Tt, Tt, Tt, Ff, Ff, Ff, Ff] ((9, .o 9) :: (34, .d (ints (nth R k))) :: (40, .d (.s 1 [[.v (.int .i64 (nth b k))]])) :: co5E R b n w k) ((9, .own 1 22 (((alM R b n).take k).map fun r => [ints r])) :: co5M R b n w k) ?_ (fun h_93 => ?_)
   ·refine .st [0, 5] ⟨?_, ?_, trivial⟩
    ·refine ⟨_, rfl, ?_⟩
     refine .m ?_; exact .j h_95
    ·refine ⟨_, rfl, ?_⟩
     refine .semM (OpSem.appendNil 35 rfl rfl rfl es22 el22 zc3 rfl (by decide) by3 (fun r hr => by obtain ⟨x, _, rfl⟩ := List.mem_map.1 hr; rfl) (by simp [maxLen]; omega) (by simp; omega)) rfl rfl (by decide) ?_; exact .j h_96
   refine .share 7 [Tt, Tt, Tt, Tt, Tt, Tt, Tt, Tt, Ff, Ff, Ff, Ff, Ff, Ff, Ff] ((9, .o 9) :: (30, .o 9) :: (35, .o 35) :: (36, .d (ints b)) :: (37, I (k)) :: co5E R b n w k) ((9, .own 1 22 (((alM R b n).take k).map fun r => [ints r])) :: (35, .own 1 3 ((nth R k).map fun n => [D.v (.int .i64 n)])) :: co5M R b n w k) ?_ (fun h_82 => ?_)
   ·refine .st [8] ⟨?_, trivial⟩
    ·refine ⟨_, rfl, ?_⟩
     refine .x (OpSem.idxL rfl rfl rfl es22 (by omega) (by omega)) ?_; exact .j h_89
   refine .share 7 [Tt, Tt, Tt, Tt, Tt, Ff, Tt, Tt, Tt, Ff, Ff, Ff, Ff, Ff, Ff] ((9, .o 9) :: (30, .o 9) :: (34, .d (ints (nth R k))) :: (38, .p [.v (.int .i64 (nth b k))]) :: co5E R b n w k) ((9, .own 1 22 (((alM R b n).take k).map fun r => [ints r])) :: co5M R b n w k) ?_ (fun h_83 => ?_)
   ·refine .st [5, 9] ⟨?_, ?_, trivial⟩
    ·refine ⟨_, rfl, ?_⟩
     refine .semM (OpSem.appendNil 35 rfl rfl rfl es22 el22 zc3 rfl (by decide) by3 (fun r hr => by obtain ⟨x, _, rfl⟩ := List.mem_map.1 hr; rfl) (by simp [maxLen]; omega) (by simp; omega)) rfl rfl (by decide) ?_; exact .j h_89
    ·refine ⟨_, rfl, ?_⟩
     refine .x (OpSem.load1 rfl rfl vs3 rfl) ?_; exact .j h_90
   refine .share 7 [Tt, Tt, Tt, Tt, Ff, Ff, Tt, Tt, Tt, Tt, Ff, Ff, Ff, Ff, Ff] ((9, .o 9) :: (30, .o 9) :: (33, .p [ints (nth R k)]) :: (39, I ((nth b k))) :: co5E R b n w k) ((9, .own 1 22 (((alM R b n).take k).map fun r => [ints r])) :: co5M R b n w k) ?_ (fun h_84 => ?_)
   ·refine .st [4, 10] ⟨?_, ?_, trivial⟩
    ·refine ⟨_, rfl, ?_⟩
     refine .x (OpSem.load1 rfl rfl vs22 rfl) ?_; exact .j h_90
    ·refine ⟨_, rfl, ?_⟩
     refine .x (.bs es22 ze22) ?_; exact .j h_91
   refine .share 7 [Tt, Tt, Tt, Ff, Ff, Ff, Tt, Tt, Tt, Tt, Tt, Ff, Ff, Ff, Ff] ((9, .o 9) :: (30, .o 9) :: (31, .d (rows R)) :: (32, I (k)) :: (40, .d (.s 1 [[.v (.int .i64 (nth b k))]])) :: co5E R b n w k) ((9, .own 1 22 (((alM R b n).take k).map fun r => [ints r])) :: co5M R b n w k) ?_ (fun h_85 => ?_)
   ·refine .st [3] ⟨?_, trivial⟩
    ·refine ⟨_, rfl, ?_⟩
     refine .x (OpSem.idxL rfl rfl rfl es37 (by omega) (by omega)) ?_; exact .j h_91
   refine .share 7 [Ff, Tt, Tt, Tt, Tt, Tt, Tt, Tt, Tt, Ff, Ff, Ff, Ff, Ff, Ff] ((9, .o 9) :: (35, .o 35) :: (38, .p [.v (.int .i64 (nth b k))]) :: co5E R b n w k) ((9, .own 1 22 (((alM R b n).take k).map fun r => [ints r])) :: (35, .own 1 3 ((nth R k).map fun n => [D.v (.int .i64 n)])) :: co5M R b n w k) ?_ (fun h_86 => ?_)
   ·refine .st [0, 9] ⟨?_, ?_, trivial⟩
    ·refine ⟨_, rfl, ?_⟩
     refine .m ?_; exact .j h_89
    ·refine ⟨_, rfl, ?_⟩
     refine .x (OpSem.load1 rfl rfl vs3 rfl) ?_; exact .j h_92
   refine .share 7 [Ff, Tt, Tt, Tt, Tt, Ff, Tt, Tt, Tt, Tt, Ff, Ff, Ff, Ff, Ff] ((9, .o 9) :: (34, .d (ints (nth R k))) :: (39, I ((nth b k))) :: co5E R b n w k) ((9, .own 1 22 (((alM R b n).take k).map fun r => [ints r])) :: co5M R b n w k) ?_ (fun h_87 => ?_)
   ·refine .st [0, 5, 10] ⟨?_, ?_, ?_, trivial⟩
    ·refine ⟨_, rfl, ?_⟩
     refine .m ?_; exact .j h_90
    ·refine ⟨_, rfl, ?_⟩
     refine .semM (OpSem.appendNil 35 rfl rfl rfl es22 el22 zc3 rfl (by decide) by3 (fun r hr => by obtain ⟨x, _, rfl⟩ := List.mem_map.1 hr; rfl) (by simp [maxLen]; omega) (by simp; omega)) rfl rfl (by decide) ?_; exact .j h_92
    ·refine ⟨_, rfl, ?_⟩
     refine .x (.bs es22 ze22) ?_; exact .j h_93
   refine .share 7 [Ff, Tt, Tt, Tt, Ff, Ff, Tt, Tt, Tt, Tt, Tt, Ff, Ff, Ff, Ff] ((9, .o 9) :: (33, .p [ints (nth R k)]) :: (40, .d (.s 1 [[.v (.int .i64 (nth b k))]])) :: co5E R b n w k) ((9, .own 1 22 (((alM R b n).take k).map fun r => [ints r])) :: co5M R b n w k) ?_ (fun h_88 => ?_)
   ·refine .st [0, 4] ⟨?_, ?_, trivial⟩
    ·refine ⟨_, rfl, ?_⟩
     refine .m ?_; exact .j h_91
    ·refine ⟨_, rfl, ?_⟩
     refine .x (OpSem.load1 rfl rfl vs22 rfl) ?_; exact .j h_93
   refine .share 8 [Tt, Tt, Tt, Tt, Tt, Tt, Tt, Ff, Ff, Ff, Ff, Ff, Ff, Ff, Ff] ((9, .o 9) :: (30, .o 9) :: (35, .o 35) :: (36, .d (ints b)) :: co5E R b n w k) ((9, .own 1 22 (((alM R b n).take k).map fun r => [ints r])) :: (35, .own 1 3 ((nth R k).map fun n => [D.v (.int .i64 n)])) :: co5M R b n w k) ?_ (fun h_71 => ?_)
   ·refine .st [7] ⟨?_, trivial⟩
    ·refine ⟨_, rfl, ?_⟩
     refine .m ?_; exact .j h_82
   refine .share 8 [Tt, Tt, Tt, Tt, Tt, Tt, Ff, Tt, Ff, Ff, Ff, Ff, Ff, Ff, Ff] ((9, .o 9) :: (30, .o 9) :: (35, .o 35) :: (37, I (k)) :: co5E R b n w k) ((9, .own 1 22 (((alM R b n).take k).map fun r => [ints r])) :: (35, .own 1 3 ((nth R k).map fun n => [D.v (.int .i64 n)])) :: co5M R b n w k) ?_ (fun h_72 => ?_)
   ·refine .st [6] ⟨?_, trivial⟩
    ·refine ⟨_, rfl, ?_⟩
     refine .m ?_; exact .j h_82
   refine .share 8 [Tt, Tt, Tt, Tt, Tt, Ff, Tt, Tt, Ff, Ff, Ff, Ff, Ff, Ff, Ff] ((9, .o 9) :: (30, .o 9) :: (34, .d (ints (nth R k))) :: (36, .d (ints b)) :: (37, I (k)) :: co5E R b n w k) ((9, .own 1 22 (((alM R b n).take k).map fun r => [ints r])) :: co5M R b n w k) ?_ (fun h_73 => ?_)
   ·refine .st [5, 8] ⟨?_, ?_, trivial⟩
    ·refine ⟨_, rfl, ?_⟩
     refine .semM (OpSem.appendNil 35 rfl rfl rfl es22 el22 zc3 rfl (by decide) by3 (fun r hr => by obtain ⟨x, _, rfl⟩ := List.mem_map.1 hr; rfl) (by simp [maxLen]; omega) (by simp; omega)) rfl rfl (by decide) ?_; exact .j h_82
    ·refine ⟨_, rfl, ?_⟩
     refine .x (OpSem.idxL rfl rfl rfl es22 (by omega) (by omega)) ?_; exact .j h_83
   refine .share 8 [Tt, Tt, Tt, Tt, Ff, Ff, Tt, Tt, Tt, Ff, Ff, Ff, Ff, Ff, Ff] ((9, .o 9) :: (30, .o 9) :: (33, .p [ints (nth R k)]) :: (38, .p [.v (.int .i64 (nth b k))]) :: co5E R b n w k) ((9, .own 1 22 (((alM R b n).take k).map fun r => [ints r])) :: co5M R b n w k) ?_ (fun h_74 => ?_)
   ·refine .st [4, 9] ⟨?_, ?_, trivial⟩
    ·refine ⟨_, rfl, ?_⟩
     refine .x (OpSem.load1 rfl rfl vs22 rfl) ?_; exact .j h_83
    ·refine ⟨_, rfl, ?_⟩
     refine .x (OpSem.load1 rfl rfl vs3 rfl) ?_; exact .j h_84
   refine .share 8 [Tt, Tt, Tt, Ff, Ff, Ff, Tt, Tt, Tt, Tt, Ff, Ff, Ff, Ff, Ff] ((9, .o 9) :: (30, .o 9) :: (31, .d (rows R)) :: (32, I (k)) :: (39, I ((nth b k))) :: co5E R b n w k) ((9, .own 1 22 (((alM R b n).take k).map fun r => [ints r])) :: co5M R b n w k) ?_ (fun h_75 => ?_)
   ·refine .st [3, 10] ⟨?_, ?_, trivial⟩
    ·refine ⟨_, rfl, ?_⟩
     refine .x (OpSem.idxL rfl rfl rfl es37 (by omega) (by omega)) ?_; exact .j h_84
    ·refine ⟨_, rfl, ?_⟩
     refine .x (.bs es22 ze22) ?_; exact .j h_85
   refine .share 8 [Tt, Tt, Ff, Ff, Ff, Ff, Tt, Tt, Tt, Tt, Tt, Ff, Ff, Ff, Ff] ((9, .o 9) :: (30, .o 9) :: (31, .d (rows R)) :: (40, .d (.s 1 [[.v (.int .i64 (nth b k))]])) :: co5E R b n w k) ((9, .own 1 22 (((alM R b n).take k).map fun r => [ints r])) :: co5M R b n w k) ?_ (fun h_76 => ?_)
   ·refine .st [2] ⟨?_, trivial⟩
    ·refine ⟨_, rfl, ?_⟩
     refine .m ?_; exact .j h_85
   refine .share 8 [Tt, Ff, Tt, Ff, Ff, Ff, Tt, Tt, Tt, Tt, Tt, Ff, Ff, Ff, Ff] ((9, .o 9) :: (30, .o 9) :: (32, I (k)) :: (40, .d (.s 1 [[.v (.int .i64 (nth b k))]])) :: co5E R b n w k) ((9, .own 1 22 (((alM R b n).take k).map fun r => [ints r])) :: co5M R b n w k) ?_ (fun h_77 => ?_)
   ·refine .st [1] ⟨?_, trivial⟩
    ·refine ⟨_, rfl, ?_⟩
     refine .m ?_; exact .j h_85
   refine .share 8 [Ff, Tt, Tt, Tt, Tt, Tt, Tt, Tt, Ff, Ff, Ff, Ff, Ff, Ff, Ff] ((9, .o 9) :: (35, .o 35) :: (36, .d (ints b)) :: (37, I (k)) :: co5E R b n w k) ((9, .own 1 22 (((alM R b n).take k).map fun r => [ints r])) :: (35, .own 1 3 ((nth R k).map fun n => [D.v (.int .i64 n)])) :: co5M R b n w k) ?_ (fun h_78 => ?_)
   ·refine .st [0, 8] ⟨?_, ?_, trivial⟩
    ·refine ⟨_, rfl, ?_⟩
     refine .m ?_; exact .j h_82
    ·refine ⟨_, rfl, ?_⟩
     refine .x (OpSem.idxL rfl rfl rfl es22 (by omega) (by omega)) ?_; exact .j h_86
   refine .share 8 [Ff, Tt, Tt, Tt, Tt, Ff, Tt, Tt, Tt, Ff, Ff, Ff, Ff, Ff, Ff] ((9, .o 9) :: (34, .d (ints (nth R k))) :: (38, .p [.v (.int .i64 (nth b k))]) :: co5E R b n w k) ((9, .own 1 22 (((alM R b n).take k).map fun r => [ints r])) :: co5M R b n w k) ?_ (fun h_79 => ?_)
   ·refine .st [0, 5, 9] ⟨?_, ?_, ?_, trivial⟩
    ·refine ⟨_, rfl, ?_⟩
     refine .m ?_; exact .j h_83
    ·refine ⟨_, rfl, ?_⟩
     refine .semM (OpSem.appendNil 35 rfl rfl rfl es22 el22 zc3 rfl (by decide) by3 (fun r hr => by obtain ⟨x, _, rfl⟩ := List.mem_map.1 hr; rfl) (by simp [maxLen]; omega) (by simp; omega)) rfl rfl (by decide) ?_; exact .j h_86
    ·refine ⟨_, rfl, ?_⟩
     refine .x (OpSem.load1 rfl rfl vs3 rfl) ?_; exact .j h_87
   refine .share 8 [Ff, Tt, Tt, Tt, Ff, Ff, Tt, Tt, Tt, Tt, Ff, Ff, Ff, Ff, Ff] ((9, .o 9) :: (33, .p [ints (nth R k)]) :: (39, I ((nth b k))) :: co5E R b n w k) ((9, .own 1 22 (((alM R b n).take k).map fun r => [ints r])) :: co5M R b n w k) ?_ (fun h_80 => ?_)
   ·refine .st [0, 4, 10] ⟨?_, ?_, ?_, trivial⟩
    ·refine ⟨_, rfl, ?_⟩
     refine .m ?_; exact .j h_84
    ·refine ⟨_, rfl, ?_⟩
     refine .x (OpSem.load1 rfl rfl vs22 rfl) ?_; exact .j h_87
    ·refine ⟨_, rfl, ?_⟩
     refine .x (.bs es22 ze22) ?_; exact .j h_88
   refine .share 8 [Ff, Tt, Tt, Ff, Ff, Ff, Tt, Tt, Tt, Tt, Tt, Ff, Ff, Ff, Ff] ((9, .o 9) :: (31, .d (rows R)) :: (32, I (k)) :: (40, .d (.s 1 [[.v (.int .i64 (nth b k))]])) :: co5E R b n w k) ((9, .own 1 22 (((alM R b n).take k).map fun r => [ints r])) :: co5M R b n w k) ?_ (fun h_81 => ?_)
   ·refine .st [0, 3] ⟨?_, ?_, trivial⟩
    ·refine ⟨_, rfl, ?_⟩
     refine .m ?_; exact .j h_85
    ·refine ⟨_, rfl, ?_⟩
     refine .x (OpSem.idxL rfl rfl rfl es37 (by omega) (by omega)) ?_; exact .j h_88
   refine .share 9 [Tt, Tt, Tt, Tt, Tt, Tt, Ff, Ff, Ff, Ff, Ff, Ff, Ff, Ff, Ff] ((9, .o 9) :: (30, .o 9) :: (35, .o 35) :: co5E R b n w k) ((9, .own 1 22 (((alM R b n).take k).map fun r => [ints r])) :: (35, .own 1 3 ((nth R k).map fun n => [D.v (.int .i64 n)])) :: co5M R b n w k) ?_ (fun h_56 => ?_)
   ·refine .st [6, 7] ⟨?_, ?_, trivial⟩
    ·refine ⟨_, rfl, ?_⟩
     refine .m ?_; exact .j h_71
    ·refine ⟨_, rfl, ?_⟩
     refine .m ?_; exact .j h_72
   refine .share 9 [Tt, Tt, Tt, Tt, Tt, Ff, Tt, Ff, Ff, Ff, Ff, Ff, Ff, Ff, Ff] ((9, .o 9) :: (30, .o 9) :: (34, .d (ints (nth R k))) :: (36, .d (ints b)) :: co5E R b n w k) ((9, .own 1 22 (((alM R b n).take k).map fun r => [ints r])) :: co5M R b n w k) ?_ (fun h_57 => ?_)
   ·refine .st [5, 7] ⟨?_, ?_, trivial⟩
    ·refine ⟨_, rfl, ?_⟩
     refine .semM (OpSem.appendNil 35 rfl rfl rfl es22 el22 zc3 rfl (by decide) by3 (fun r hr => by obtain ⟨x, _, rfl⟩ := List.mem_map.1 hr; rfl) (by simp [maxLen]; omega) (by simp; omega)) rfl rfl (by decide) ?_; exact .j h_71
    ·refine ⟨_, rfl, ?_⟩
     refine .m ?_; exact .j h_73
   refine .share 9 [Tt, Tt, Tt, Tt, Tt, Ff, Ff, Tt, Ff, Ff, Ff, Ff, Ff, Ff, Ff] ((9, .o 9) :: (30, .o 9) :: (34, .d (ints (nth R k))) :: (37, I (k)) :: co5E R b n w k) ((9, .own 1 22 (((alM R b n).take k).map fun r => [ints r])) :: co5M R b n w k) ?_ (fun h_58 => ?_)
   ·refine .st [5, 6] ⟨?_, ?_, trivial⟩
    ·refine ⟨_, rfl, ?_⟩
     refine .semM (OpSem.appendNil 35 rfl rfl rfl es22 el22 zc3 rfl (by decide) by3 (fun r hr => by obtain ⟨x, _, rfl⟩ := List.mem_map.1 hr; rfl) (by simp [maxLen]; omega) (by simp; omega)) rfl rfl (by decide) ?_; exact .j h_72
    ·refine ⟨_, rfl, ?_⟩
     refine .m ?_; exact .j h_73
   refine .share 9 [Tt, Tt, Tt, Tt, Ff, Ff, Tt, Tt, Ff, Ff, Ff, Ff, Ff, Ff, Ff] ((9, .o 9) :: (30, .o 9) :: (33, .p [ints (nth R k)]) :: (36, .d (ints b)) :: (37, I (k)) :: co5E R b n w k) ((9, .own 1 22 (((alM R b n).take k).map fun r => [ints r])) :: co5M R b n w k) ?_ (fun h_59 => ?_)
   ·refine .st [4, 8] ⟨?_, ?_, trivial⟩
    ·refine ⟨_, rfl, ?_⟩
     refine .x (OpSem.load1 rfl rfl vs22 rfl) ?_; exact .j h_73
    ·refine ⟨_, rfl, ?_⟩
     refine .x (OpSem.idxL rfl rfl rfl es22 (by omega) (by omega)) ?_; exact .j h_74
   refine .share 9 [Tt, Tt, Tt, Ff, Ff, Ff, Tt, Tt, Tt, Ff, Ff, Ff, Ff, Ff, Ff] ((9, .o 9) :: (30, .o 9) :: (31, .d (rows R)) :: (32, I (k)) :: (38, .p [.v (.int .i64 (nth b k))]) :: co5E R b n w k) ((9, .own 1 22 (((alM R b n).take k).map fun r => [ints r])) :: co5M R b n w k) ?_ (fun h_60 => ?_)
   ·refine .st [3, 9] ⟨?_, ?_, trivial⟩
    ·refine ⟨_, rfl, ?_⟩
     refine .x (OpSem.idxL rfl rfl rfl es37 (by omega) (by omega)) ?_; exact .j h_74
    ·refine ⟨_, rfl, ?_⟩
     refine .x (OpSem.load1 rfl rfl vs3 rfl) ?_; exact .j h_75
   refine .share 9 [Tt, Tt, Ff, Ff, Ff, Ff, Tt, Tt, Tt, Tt, Ff, Ff, Ff, Ff, Ff] ((9, .o 9) :: (30, .o 9) :: (31, .d (rows R)) :: (39, I ((nth b k))) :: co5E R b n w k) ((9, .own 1 22 (((alM R b n).take k).map fun r => [ints r])) :: co5M R b n w k) ?_ (fun h_61 => ?_)
   ·refine .st [2, 10] ⟨?_, ?_, trivial⟩
    ·refine ⟨_, rfl, ?_⟩
     refine .m ?_; exact .j h_75
    ·refine ⟨_, rfl, ?_⟩
     refine .x (.bs es22 ze22) ?_; exact .j h_76
   refine .share 9 [Tt, Ff, Tt, Ff, Ff, Ff, Tt, Tt, Tt, Tt, Ff, Ff, Ff, Ff, Ff] ((9, .o 9) :: (30, .o 9) :: (32, I (k)) :: (39, I ((nth b k))) :: co5E R b n w k) ((9, .own 1 22 (((alM R b n).take k).map fun r => [ints r])) :: co5M R b n w k) ?_ (fun h_62 => ?_)
   ·refine .st [1, 10] ⟨?_, ?_, trivial⟩
    ·refine ⟨_, rfl, ?_⟩
     refine .m ?_; exact .j h_75
    ·refine ⟨_, rfl, ?_⟩
     refine .x (.bs es22 ze22) ?_; exact .j h_77
   refine .share 9 [Tt, Ff, Ff, Ff, Ff, Ff, Tt, Tt, Tt, Tt, Tt, Ff, Ff, Ff, Ff] ((9, .o 9) :: (30, .o 9) :: (40, .d (.s 1 [[.v (.int .i64 (nth b k))]])) :: co5E R b n w k) ((9, .own 1 22 (((alM R b n).take k).map fun r => [ints r])) :: co5M R b n w k) ?_ (fun h_63 => ?_)
   ·refine .st [1, 2] ⟨?_, ?_, trivial⟩
    ·refine ⟨_, rfl, ?_⟩
     refine .m ?_; exact .j h_76
    ·refine ⟨_, rfl, ?_⟩
     refine .m ?_; exact .j h_77
   refine .share 9 [Ff, Tt, Tt, Tt, Tt, Tt, Tt, Ff, Ff, Ff, Ff, Ff, Ff, Ff, Ff] ((9, .o 9) :: (35, .o 35) :: (36, .d (ints b)) :: co5E R b n w k) ((9, .own 1 22 (((alM R b n).take k).map fun r => [ints r])) :: (35, .own 1 3 ((nth R k).map fun n => [D.v (.int .i64 n)])) :: co5M R b n w k) ?_ (fun h_64 => ?_)
   ·refine .st [0, 7] ⟨?_, ?_, trivial⟩
    ·refine ⟨_, rfl, ?_⟩
     refine .m ?_; exact .j h_71
    ·refine ⟨_, rfl, ?_⟩
     refine .m ?_; exact .j h_78
   refine .share 9 [Ff, Tt, Tt, Tt, Tt, Tt, Ff, Tt, Ff, Ff, Ff, Ff, Ff, Ff, Ff] ((9, .o 9) :: (35, .o 35) :: (37, I (k)) :: co5E R b n w k) ((9, .own 1 22 (((alM R b n).take k).map fun r => [ints r])) :: (35, .own 1 3 ((nth R k).map fun n => [D.v (.int .i64 n)])) :: co5M R b n w k) ?_ (fun h_65 => ?_)
   ·refine .st [0, 6] ⟨?_, ?_, trivial⟩
    ·refine ⟨_, rfl, ?_⟩
     refine .m ?_; exact .j h_72
    ·refine ⟨_, rfl, ?_⟩
     refine .m ?_; exact .j h_78
   refine .share 9 [Ff, Tt, Tt, Tt, Tt, Ff, Tt, Tt, Ff, Ff, Ff, Ff, Ff, Ff, Ff] ((9, .o 9) :: (34, .d (ints (nth R k))) :: (36, .d (ints b)) :: (37, I (k)) :: co5E R b n w k) ((9, .own 1 22 (((alM R b n).take k).map fun r => [ints r])) :: co5M R b n w k) ?_ (fun h_66 => ?_)
   ·refine .st [0, 5, 8] ⟨?_, ?_, ?_, trivial⟩
    ·refine ⟨_, rfl, ?_⟩
     refine .m ?_; exact .j h_73
    ·refine ⟨_, rfl, ?_⟩
     refine .semM (OpSem.appendNil 35 rfl rfl rfl es22 el22 zc3 rfl (by decide) by3 (fun r hr => by obtain ⟨x, _, rfl⟩ := List.mem_map.1 hr; rfl) (by simp [maxLen]; omega) (by simp; omega)) rfl rfl (by decide) ?_; exact .j h_78
    ·refine ⟨_, rfl, ?_⟩
     refine .x (OpSem.idxL rfl rfl rfl es22 (by omega) (by omega)) ?_; exact .j h_79
   refine .share 9 [Ff, Tt, Tt, Tt, Ff, Ff, Tt, Tt, Tt, Ff, Ff, Ff, Ff, Ff, Ff] ((9, .o 9) :: (33, .p [ints (nth R k)]) :: (38, .p [.v (.int .i64 (nth b k))]) :: co5E R b n w k) ((9, .own 1 22 (((alM R b n).take k).map fun r => [ints r])) :: co5M R b n w k) ?_ (fun h_67 => ?_)
   ·refine .st [0, 4, 9] ⟨?_, ?_, ?_, trivial⟩
    ·refine ⟨_, rfl, ?_⟩
     refine .m ?_; exact .j h_74
    ·refine ⟨_, rfl, ?_⟩
     refine .x (OpSem.load1 rfl rfl vs22 rfl) ?_; exact .j h_79
    ·refine ⟨_, rfl, ?_⟩
     refine .x (OpSem.load1 rfl rfl vs3 rfl) ?_; exact .j h_80
   refine .share 9 [Ff, Tt, Tt, Ff, Ff, Ff, Tt, Tt, Tt, Tt, Ff, Ff, Ff, Ff, Ff] ((9, .o 9) :: (31, .d (rows R)) :: (32, I (k)) :: (39, I ((nth b k))) :: co5E R b n w k) ((9, .own 1 22 (((alM R b n).take k).map fun r => [ints r])) :: co5M R b n w k) ?_ (fun h_68 => ?_)
   ·refine .st [0, 3, 10] ⟨?_, ?_, ?_, trivial⟩
    ·refine ⟨_, rfl, ?_⟩
     refine .m ?_; exact .j h_75
    ·refine ⟨_, rfl, ?_⟩
     refine .x (OpSem.idxL rfl rfl rfl es37 (by omega) (by omega)) ?_; exact .j h_80
    ·refine ⟨_, rfl, ?_⟩
     refine .x (.bs es22 ze22) ?_; exact .j h_81
   refine .share 9 [Ff, Tt, Ff, Ff, Ff, Ff, Tt, Tt, Tt, Tt, Tt, Ff, Ff, Ff, Ff] ((9, .o 9) :: (31, .d (rows R)) :: (40, .d (.s 1 [[.v (.int .i64 (nth b k))]])) :: co5E R b n w k) ((9, .own 1 22 (((alM R b n).take k).map fun r => [ints r])) :: co5M R b n w k) ?_ (fun h_69 => ?_)
   ·refine .st [0, 2] ⟨?_, ?_, trivial⟩
    ·refine ⟨_, rfl, ?_⟩
     refine .m ?_; exact .j h_76
    ·refine ⟨_, rfl, ?_⟩
     refine .m ?_; exact .j h_81
   refine .share 9 [Ff, Ff, Tt, Ff, Ff, Ff, Tt, Tt, Tt, Tt, Tt, Ff, Ff, Ff, Ff] ((9, .o 9) :: (32, I (k)) :: (40, .d (.s 1 [[.v (.int .i64 (nth b k))]])) :: co5E R b n w k) ((9, .own 1 22 (((alM R b n).take k).map fun r => [ints r])) :: co5M R b n w k) ?_ (fun h_70 => ?_)
   ·refine .st [0, 1] ⟨?_, ?_, trivial⟩
    ·refine ⟨_, rfl, ?_⟩
     refine .m ?_; exact .j h_77
    ·refine ⟨_, rfl, ?_⟩
     refine .m ?_; exact .j h_81
   refine .share 10 [Tt, Tt, Tt, Tt, Tt, Ff, Ff, Ff, Ff, Ff, Ff, Ff, Ff, Ff, Ff] ((9, .o 9) :: (30, .o 9) :: (34, .d (ints (nth R k))) :: co5E R b n w k) ((9, .own 1 22 (((alM R b n).take k).map fun r => [ints r])) :: co5M R b n w k) ?_ (fun h_41 => ?_)
   ·refine .st [5, 6, 7] ⟨?_, ?_, ?_, trivial⟩
    ·refine ⟨_, rfl, ?_⟩
     refine .semM (OpSem.appendNil 35 rfl rfl rfl es22 el22 zc3 rfl (by decide) by3 (fun r hr => by obtain ⟨x, _, rfl⟩ := List.mem_map.1 hr; rfl) (by simp [maxLen]; omega) (by simp; omega)) rfl rfl (by decide) ?_; exact .j h_56
    ·refine ⟨_, rfl, ?_⟩
     refine .m ?_; exact .j h_57
    ·refine ⟨_, rfl, ?_⟩
     refine .m ?_; exact .j h_58
   refine .share 10 [Tt, Tt, Tt, Tt, Ff, Ff, Tt, Ff, Ff, Ff, Ff, Ff, Ff, Ff, Ff] ((9, .o 9) :: (30, .o 9) :: (33, .p [ints (nth R k)]) :: (36, .d (ints b)) :: co5E R b n w k) ((9, .own 1 22 (((alM R b n).take k).map fun r => [ints r])) :: co5M R b n w k) ?_ (fun h_42 => ?_)
   ·refine .st [4, 7] ⟨?_, ?_, trivial⟩
    ·refine ⟨_, rfl, ?_⟩
     refine .x (OpSem.load1 rfl rfl vs22 rfl) ?_; exact .j h_57
    ·refine ⟨_, rfl, ?_⟩
     refine .m ?_; exact .j h_59
   refine .share 10 [Tt, Tt, Tt, Tt, Ff, Ff, Ff, Tt, Ff, Ff, Ff, Ff, Ff, Ff, Ff] ((9, .o 9) :: (30, .o 9) :: (33, .p [ints (nth R k)]) :: (37, I (k)) :: co5E R b n w k) ((9, .own 1 22 (((alM R b n).take k).map fun r => [ints r])) :: co5M R b n w k) ?_ (fun h_43 => ?_)
   ·refine .st [4, 6] ⟨?_, ?_, trivial⟩
    ·refine ⟨_, rfl, ?_⟩
     refine .x (OpSem.load1 rfl rfl vs22 rfl) ?_; exact .j h_58
    ·refine ⟨_, rfl, ?_⟩
     refine .m ?_; exact .j h_59
   refine .share 10 [Tt, Tt, Tt, Ff, Ff, Ff, Tt, Tt, Ff, Ff, Ff, Ff, Ff, Ff, Ff] ((9, .o 9) :: (30, .o 9) :: (31, .d (rows R)) :: (32, I (k)) :: (36, .d (ints b)) :: (37, I (k)) :: co5E R b n w k) ((9, .own 1 22 (((alM R b n).take k).map fun r => [ints r])) :: co5M R b n w k) ?_ (fun h_44 => ?_)
   ·refine .st [3, 8] ⟨?_, ?_, trivial⟩
    ·refine ⟨_, rfl, ?_⟩
     refine .x (OpSem.idxL rfl rfl rfl es37 (by omega) (by omega)) ?_; exact .j h_59
    ·refine ⟨_, rfl, ?_⟩
     refine .x (OpSem.idxL rfl rfl rfl es22 (by omega) (by omega)) ?_; exact .j h_60
   refine .share 10 [Tt, Tt, Ff, Ff, Ff, Ff, Tt, Tt, Tt, Ff, Ff, Ff, Ff, Ff, Ff] ((9, .o 9) :: (30, .o 9) :: (31, .d (rows R)) :: (38, .p [.v (.int .i64 (nth b k))]) :: co5E R b n w k) ((9, .own 1 22 (((alM R b n).take k).map fun r => [ints r])) :: co5M R b n w k) ?_ (fun h_45 => ?_)
   ·refine .st [2, 9] ⟨?_, ?_, trivial⟩
    ·refine ⟨_, rfl, ?_⟩
     refine .m ?_; exact .j h_60
    ·refine ⟨_, rfl, ?_⟩
     refine .x (OpSem.load1 rfl rfl vs3 rfl) ?_; exact .j h_61
   refine .share 10 [Tt, Ff, Tt, Ff, Ff, Ff, Tt, Tt, Tt, Ff, Ff, Ff, Ff, Ff, Ff] ((9, .o 9) :: (30, .o 9) :: (32, I (k)) :: (38, .p [.v (.int .i64 (nth b k))]) :: co5E R b n w k) ((9, .own 1 22 (((alM R b n).take k).map fun r => [ints r])) :: co5M R b n w k) ?_ (fun h_46 => ?_)
   ·refine .st [1, 9] ⟨?_, ?_, trivial⟩
    ·refine ⟨_, rfl, ?_⟩
     refine .m ?_; exact .j h_60
    ·refine ⟨_, rfl, ?_⟩
     refine .x (OpSem.load1 rfl rfl vs3 rfl) ?_; exact .j h_62
   refine .share 10 [Tt, Ff, Ff, Ff, Ff, Ff, Tt, Tt, Tt, Tt, Ff, Ff, Ff, Ff, Ff] ((9, .o 9) :: (30, .o 9) :: (39, I ((nth b k))) :: co5E R b n w k) ((9, .own 1 22 (((alM R b n).take k).map fun r => [ints r])) :: co5M R b n w k) ?_ (fun h_47 => ?_)
   ·refine .st [1, 2, 10] ⟨?_, ?_, ?_, trivial⟩
    ·refine ⟨_, rfl, ?_⟩
     refine .m ?_; exact .j h_61
    ·refine ⟨_, rfl, ?_⟩
     refine .m ?_; exact .j h_62
    ·refine ⟨_, rfl, ?_⟩
     refine .x (.bs es22 ze22) ?_; exact .j h_63
   refine .share 10 [Ff, Tt, Tt, Tt, Tt, Tt, Ff, Ff, Ff, Ff, Ff, Ff, Ff, Ff, Ff] ((9, .o 9) :: (35, .o 35) :: co5E R b n w k) ((9, .own 1 22 (((alM R b n).take k).map fun r => [ints r])) :: (35, .own 1 3 ((nth R k).map fun n => [D.v (.int .i64 n)])) :: co5M R b n w k) ?_ (fun h_48 => ?_)
   ·refine .st [0, 6, 7] ⟨?_, ?_, ?_, trivial⟩
    ·refine ⟨_, rfl, ?_⟩
     refine .m ?_; exact .j h_56
    ·refine ⟨_, rfl, ?_⟩
     refine .m ?_; exact .j h_64
    ·refine ⟨_, rfl, ?_⟩
     refine .m ?_; exact .j h_65
   refine .share 10 [Ff, Tt, Tt, Tt, Tt, Ff, Tt, Ff, Ff, Ff, Ff, Ff, Ff, Ff, Ff] ((9, .o 9) :: (34, .d (ints (nth R k))) :: (36, .d (ints b)) :: co5E R b n w k) ((9, .own 1 22 (((alM R b n).take k).map fun r => [ints r])) :: co5M R b n w k) ?_ (fun h_49 => ?_)
   ·refine .st [0, 5, 7] ⟨?_, ?_, ?_, trivial⟩
    ·refine ⟨_, rfl, ?_⟩
     refine .m ?_; exact .j h_57
    ·refine ⟨_, rfl, ?_⟩
     refine .semM (OpSem.appendNil 35 rfl rfl rfl es22 el22 zc3 rfl (by decide) by3 (fun r hr => by obtain ⟨x, _, rfl⟩ := List.mem_map.1 hr; rfl) (by simp [maxLen]; omega) (by simp; omega)) rfl rfl (by decide) ?_; exact .j h_64
    ·refine ⟨_, rfl, ?_⟩
     refine .m ?_; exact .j h_66
   refine .share 10 [Ff, Tt, Tt, Tt, Tt, Ff, Ff, Tt, Ff, Ff, Ff, Ff, Ff, Ff, Ff] ((9, .o 9) :: (34, .d (ints (nth R k))) :: (37, I (k)) :: co5E R b n w k) ((9, .own 1 22 (((alM R b n).take k).map fun r => [ints r])) :: co5M R b n w k) ?_ (fun h_50 => ?_)
   ·refine .st [0, 5, 6] ⟨?_, ?_, ?_, trivial⟩
    ·refine ⟨_, rfl, ?_⟩
     refine .m ?_; exact .j h_58
    ·refine ⟨_, rfl, ?_⟩
     refine .semM (OpSem.appendNil 35 rfl rfl rfl es22 el22 zc3 rfl (by decide) by3 (fun r hr => by obtain ⟨x, _, rfl⟩ := List.mem_map.1 hr; rfl) (by simp [maxLen]; omega) (by simp; omega)) rfl rfl (by decide) ?_; exact .j h_65
    ·refine ⟨_, rfl, ?_⟩
     refine .m ?_; exact .j h_66
   refine .share 10 [Ff, Tt, Tt, Tt, Ff, Ff, Tt, Tt, Ff, Ff, Ff, Ff, Ff, Ff, Ff] ((9, .o 9) :: (33, .p [ints (nth R k)]) :: (36, .d (ints b)) :: (37, I (k)) :: co5E R b n w k) ((9, .own 1 22 (((alM R b n).take k).map fun r => [ints r])) :: co5M R b n w k) ?_ (fun h_51 => ?_)
   ·refine .st [0, 4, 8] ⟨?_, ?_, ?_, trivial⟩
    ·refine ⟨_, rfl, ?_⟩
     refine .m ?_; exact .j h_59
    ·refine ⟨_, rfl, ?_⟩
     refine .x (OpSem.load1 rfl rfl vs22 rfl) ?_; exact .j h_66
    ·refine ⟨_, rfl, ?_⟩
     refine .x (OpSem.idxL rfl rfl rfl es22 (by omega) (by omega)) ?_; exact .j h_67
   refine .share 10 [Ff, Tt, Tt, Ff, Ff, Ff, Tt, Tt, Tt, Ff, Ff, Ff, Ff, Ff, Ff] ((9, .o 9) :: (31, .d (rows R)) :: (32, I (k)) :: (38, .p [.v (.int .i64 (nth b k))]) :: co5E R b n w k) ((9, .own 1 22 (((alM R b n).take k).map fun r => [ints r])) :: co5M R b n w k) ?_ (fun h_52 => ?_)
   ·refine .st [0, 3, 9] ⟨?_, ?_, ?_, trivial⟩
    ·refine ⟨_, rfl, ?_⟩
     refine .m ?_; exact .j h_60
    ·refine ⟨_, rfl, ?_⟩
     refine .x (OpSem.idxL rfl rfl rfl es37 (by omega) (by omega)) ?_; exact .j h_67
    ·refine ⟨_, rfl, ?_⟩
     refine .x (OpSem.load1 rfl rfl vs3 rfl) ?_; exact .j h_68
   refine .share 10 [Ff, Tt, Ff, Ff, Ff, Ff, Tt, Tt, Tt, Tt, Ff, Ff, Ff, Ff, Ff] ((9, .o 9) :: (31, .d (rows R)) :: (39, I ((nth b k))) :: co5E R b n w k) ((9, .own 1 22 (((alM R b n).take k).map fun r => [ints r])) :: co5M R b n w k) ?_ (fun h_53 => ?_)
   ·refine .st [0, 2, 10] ⟨?_, ?_, ?_, trivial⟩
    ·refine ⟨_, rfl, ?_⟩
     refine .m ?_; exact .j h_61
    ·refine ⟨_, rfl, ?_⟩
     refine .m ?_; exact .j h_68
    ·refine ⟨_, rfl, ?_⟩
     refine .x (.bs es22 ze22) ?_; exact .j h_69
   refine .share 10 [Ff, Ff, Tt, Ff, Ff, Ff, Tt, Tt, Tt, Tt, Ff, Ff, Ff, Ff, Ff] ((9, .o 9) :: (32, I (k)) :: (39, I ((nth b k))) :: co5E R b n w k) ((9, .own 1 22 (((alM R b n).take k).map fun r => [ints r])) :: co5M R b n w k) ?_ (fun h_54 => ?_)
   ·refine .st [0, 1, 10] ⟨?_, ?_, ?_, trivial⟩
    ·refine ⟨_, rfl, ?_⟩
     refine .m ?_; exact .j h_62
    ·refine ⟨_, rfl, ?_⟩
     refine .m ?_; exact .j h_68
    ·refine ⟨_, rfl, ?_⟩
     refine .x (.bs es22 ze22) ?_; exact .j h_70
   refine .share 10 [Ff, Ff, Ff, Ff, Ff, Ff, Tt, Tt, Tt, Tt, Tt, Ff, Ff, Ff, Ff] ((9, .o 9) :: (40, .d (.s 1 [[.v (.int .i64 (nth b k))]])) :: co5E R b n w k) ((9, .own 1 22 (((alM R b n).take k).map fun r => [ints r])) :: co5M R b n w k) ?_ (fun h_55 => ?_)
   ·refine .st [0, 1, 2] ⟨?_, ?_, ?_, trivial⟩
    ·refine ⟨_, rfl, ?_⟩
     refine .m ?_; exact .j h_63
    ·refine ⟨_, rfl, ?_⟩
     refine .m ?_; exact .j h_69
    ·refine ⟨_, rfl, ?_⟩
     refine .m ?_; exact .j h_70
   refine .share 11 [Tt, Tt, Tt, Tt, Ff, Ff, Ff, Ff, Ff, Ff, Ff, Ff, Ff, Ff, Ff] ((9, .o 9) :: (30, .o 9) :: (33, .p [ints (nth R k)]) :: co5E R b n w k) ((9, .own 1 22 (((alM R b n).take k).map fun r => [ints r])) :: co5M R b n w k) ?_ (fun h_28 => ?_)
   ·refine .st [4, 6, 7] ⟨?_, ?_, ?_, trivial⟩
    ·refine ⟨_, rfl, ?_⟩
     refine .x (OpSem.load1 rfl rfl vs22 rfl) ?_; exact .j h_41
    ·refine ⟨_, rfl, ?_⟩
     refine .m ?_; exact .j h_42
    ·refine ⟨_, rfl, ?_⟩
     refine .m ?_; exact .j h_43
   refine .share 11 [Tt, Tt, Tt, Ff, Ff, Ff, Tt, Ff, Ff, Ff, Ff, Ff, Ff, Ff, Ff] ((9, .o 9) :: (30, .o 9) :: (31, .d (rows R)) :: (32, I (k)) :: (36, .d (ints b)) :: co5E R b n w k) ((9, .own 1 22 (((alM R b n).take k).map fun r => [ints r])) :: co5M R b n w k) ?_ (fun h_29 => ?_)
   ·refine .st [3, 7] ⟨?_, ?_, trivial⟩
    ·refine ⟨_, rfl, ?_⟩
     refine .x (OpSem.idxL rfl rfl rfl es37 (by omega) (by omega)) ?_; exact .j h_42
    ·refine ⟨_, rfl, ?_⟩
     refine .m ?_; exact .j h_44
   refine .share 11 [Tt, Tt, Tt, Ff, Ff, Ff, Ff, Tt, Ff, Ff, Ff, Ff, Ff, Ff, Ff] ((9, .o 9) :: (30, .o 9) :: (31, .d (rows R)) :: (32, I (k)) :: (37, I (k)) :: co5E R b n w k) ((9, .own 1 22 (((alM R b n).take k).map fun r => [ints r])) :: co5M R b n w k) ?_ (fun h_30 => ?_)
   ·refine .st [3, 6] ⟨?_, ?_, trivial⟩
    ·refine ⟨_, rfl, ?_⟩
     refine .x (OpSem.idxL rfl rfl rfl es37 (by omega) (by omega)) ?_; exact .j h_43
    ·refine ⟨_, rfl, ?_⟩
     refine .m ?_; exact .j h_44
   refine .share 11 [Tt, Tt, Ff, Ff, Ff, Ff, Tt, Tt, Ff, Ff, Ff, Ff, Ff, Ff, Ff] ((9, .o 9) :: (30, .o 9) :: (31, .d (rows R)) :: (36, .d (ints b)) :: (37, I (k)) :: co5E R b n w k) ((9, .own 1 22 (((alM R b n).take k).map fun r => [ints r])) :: co5M R b n w k) ?_ (fun h_31 => ?_)
   ·refine .st [2, 8] ⟨?_, ?_, trivial⟩
    ·refine ⟨_, rfl, ?_⟩
     refine .m ?_; exact .j h_44
    ·refine ⟨_, rfl, ?_⟩
     refine .x (OpSem.idxL rfl rfl rfl es22 (by omega) (by omega)) ?_; exact .j h_45
   refine .share 11 [Tt, Ff, Tt, Ff, Ff, Ff, Tt, Tt, Ff, Ff, Ff, Ff, Ff, Ff, Ff] ((9, .o 9) :: (30, .o 9) :: (32, I (k)) :: (36, .d (ints b)) :: (37, I (k)) :: co5E R b n w k) ((9, .own 1 22 (((alM R b n).take k).map fun r => [ints r])) :: co5M R b n w k) ?_ (fun h_32 => ?_)
   ·refine .st [1, 8] ⟨?_, ?_, trivial⟩
    ·refine ⟨_, rfl, ?_⟩
     refine .m ?_; exact .j h_44
    ·refine ⟨_, rfl, ?_⟩
     refine .x (OpSem.idxL rfl rfl rfl es22 (by omega) (by omega)) ?_; exact .j h_46
   refine .share 11 [Tt, Ff, Ff, Ff, Ff, Ff, Tt, Tt, Tt, Ff, Ff, Ff, Ff, Ff, Ff] ((9, .o 9) :: (30, .o 9) :: (38, .p [.v (.int .i64 (nth b k))]) :: co5E R b n w k) ((9, .own 1 22 (((alM R b n).take k).map fun r => [ints r])) :: co5M R b n w k) ?_ (fun h_33 => ?_)
   ·refine .st [1, 2, 9] ⟨?_, ?_, ?_, trivial⟩
    ·refine ⟨_, rfl, ?_⟩
     refine .m ?_; exact .j h_45
    ·refine ⟨_, rfl, ?_⟩
     refine .m ?_; exact .j h_46
    ·refine ⟨_, rfl, ?_⟩
     refine .x (OpSem.load1 rfl rfl vs3 rfl) ?_; exact .j h_47
   refine .share 11 [Ff, Tt, Tt, Tt, Tt, Ff, Ff, Ff, Ff, Ff, Ff, Ff, Ff, Ff, Ff] ((9, .o 9) :: (34, .d (ints (nth R k))) :: co5E R b n w k) ((9, .own 1 22 (((alM R b n).take k).map fun r => [ints r])) :: co5M R b n w k) ?_ (fun h_34 => ?_)
   ·refine .st [0, 5, 6, 7] ⟨?_, ?_, ?_, ?_, trivial⟩
    ·refine ⟨_, rfl, ?_⟩
     refine .m ?_; exact .j h_41
    ·refine ⟨_, rfl, ?_⟩
     refine .semM (OpSem.appendNil 35 rfl rfl rfl es22 el22 zc3 rfl (by decide) by3 (fun r hr => by obtain ⟨x, _, rfl⟩ := List.mem_map.1 hr; rfl) (by simp [maxLen]; omega) (by simp; omega)) rfl rfl (by decide) ?_; exact .j h_48
    ·refine ⟨_, rfl, ?_⟩
     refine .m ?_; exact .j h_49
    ·refine ⟨_, rfl, ?_⟩
     refine .m ?_; exact .j h_50
   refine .share 11 [Ff, Tt, Tt, Tt, Ff, Ff, Tt, Ff, Ff, Ff, Ff, Ff, Ff, Ff, Ff] ((9, .o 9) :: (33, .p [ints (nth R k)]) :: (36, .d (ints b)) :: co5E R b n w k) ((9, .own 1 22 (((alM R b n).take k).map fun r => [ints r])) :: co5M R b n w k) ?_ (fun h_35 => ?_)
   ·refine .st [0, 4, 7] ⟨?_, ?_, ?_, trivial⟩
    ·refine ⟨_, rfl, ?_⟩
     refine .m ?_; exact .j h_42
    ·refine ⟨_, rfl, ?_⟩
     refine .x (OpSem.load1 rfl rfl vs22 rfl) ?_; exact .j h_49
    ·refine ⟨_, rfl, ?_⟩
     refine .m ?_; exact .j h_51
   refine .share 11 [Ff, Tt, Tt, Tt, Ff, Ff, Ff, Tt, Ff, Ff, Ff, Ff, Ff, Ff, Ff] ((9, .o 9) :: (33, .p [ints (nth R k)]) :: (37, I (k)) :: co5E R b n w k) ((9, .own 1 22 (((alM R b n).take k).map fun r => [ints r])) :: co5M R b n w k) ?_ (fun h_36 => ?_)
   ·refine .st [0, 4, 6] ⟨?_, ?_, ?_, trivial⟩
    ·refine ⟨_, rfl, ?_⟩
     refine .m ?_; exact .j h_43
    ·refine ⟨_, rfl, ?_⟩
     refine .x (OpSem.load1 rfl rfl vs22 rfl) ?_; exact .j h_50
    ·refine ⟨_, rfl, ?_⟩
     refine .m ?_; exact .j h_51
   refine .share 11 [Ff, Tt, Tt, Ff, Ff, Ff, Tt, Tt, Ff, Ff, Ff, Ff, Ff, Ff, Ff] ((9, .o 9) :: (31, .d (rows R)) :: (32, I (k)) :: (36, .d (ints b)) :: (37, I (k)) :: co5E R b n w k) ((9, .own 1 22 (((alM R b n).take k).map fun r => [ints r])) :: co5M R b n w k) ?_ (fun h_37 => ?_)
   ·refine .st [0, 3, 8] ⟨?_, ?_, ?_, trivial⟩
    ·refine ⟨_, rfl, ?_⟩
     refine .m ?_; exact .j h_44
    ·refine ⟨_, rfl, ?_⟩
     refine .x (OpSem.idxL rfl rfl rfl es37 (by omega) (by omega)) ?_; exact .j h_51
    ·refine ⟨_, rfl, ?_⟩
     refine .x (OpSem.idxL rfl rfl rfl es22 (by omega) (by omega)) ?_; exact .j h_52
   refine .share 11 [Ff, Tt, Ff, Ff, Ff, Ff, Tt, Tt, Tt, Ff, Ff, Ff, Ff, Ff, Ff] ((9, .o 9) :: (31, .d (rows R)) :: (38, .p [.v (.int .i64 (nth b k))]) :: co5E R b n w k) ((9, .own 1 22 (((alM R b n).take k).map fun r => [ints r])) :: co5M R b n w k) ?_ (fun h_38 => ?_)
   ·refine .st [0, 2, 9] ⟨?_, ?_, ?_, trivial⟩
    ·refine ⟨_, rfl, ?_⟩
     refine .m ?_; exact .j h_45
    ·refine ⟨_, rfl, ?_⟩
     refine .m ?_; exact .j h_52
    ·refine ⟨_, rfl, ?_⟩
     refine .x (OpSem.load1 rfl rfl vs3 rfl) ?_; exact .j h_53
   refine .share 11 [Ff, Ff, Tt, Ff, Ff, Ff, Tt, Tt, Tt, Ff, Ff, Ff, Ff, Ff, Ff] ((9, .o 9) :: (32, I (k)) :: (38, .p [.v (.int .i64 (nth b k))]) :: co5E R b n w k) ((9, .own 1 22 (((alM R b n).take k).map fun r => [ints r])) :: co5M R b n w k) ?_ (fun h_39 => ?_)
   ·refine .st [0, 1, 9] ⟨?_, ?_, ?_, trivial⟩
    ·refine ⟨_, rfl, ?_⟩
     refine .m ?_; exact .j h_46
    ·refine ⟨_, rfl, ?_⟩
     refine .m ?_; exact .j h_52
    ·refine ⟨_, rfl, ?_⟩
     refine .x (OpSem.load1 rfl rfl vs3 rfl) ?_; exact .j h_54
   refine .share 11 [Ff, Ff, Ff, Ff, Ff, Ff, Tt, Tt, Tt, Tt, Ff, Ff, Ff, Ff, Ff] ((9, .o 9) :: (39, I ((nth b k))) :: co5E R b n w k) ((9, .own 1 22 (((alM R b n).take k).map fun r => [ints r])) :: co5M R b n w k) ?_ (fun h_40 => ?_)
   ·refine .st [0, 1, 2, 10] ⟨?_, ?_, ?_, ?_, trivial⟩
    ·refine ⟨_, rfl, ?_⟩
     refine .m ?_; exact .j h_47
    ·refine ⟨_, rfl, ?_⟩
     refine .m ?_; exact .j h_53
    ·refine ⟨_, rfl, ?_⟩
     refine .m ?_; exact .j h_54
    ·refine ⟨_, rfl, ?_⟩
     refine .x (.bs es22 ze22) ?_; exact .j h_55
   refine .share 12 [Tt, Tt, Tt, Ff, Ff, Ff, Ff, Ff, Ff, Ff, Ff, Ff, Ff, Ff, Ff] ((9, .o 9) :: (30, .o 9) :: (31, .d (rows R)) :: (32, I (k)) :: co5E R b n w k) ((9, .own 1 22 (((alM R b n).take k).map fun r => [ints r])) :: co5M R b n w k) ?_ (fun h_16 => ?_)
   ·refine .st [3, 6, 7] ⟨?_, ?_, ?_, trivial⟩
    ·refine ⟨_, rfl, ?_⟩
     refine .x (OpSem.idxL rfl rfl rfl es37 (by omega) (by omega)) ?_; exact .j h_28
    ·refine ⟨_, rfl, ?_⟩
     refine .m ?_; exact .j h_29
    ·refine ⟨_, rfl, ?_⟩
     refine .m ?_; exact .j h_30
   refine .share 12 [Tt, Tt, Ff, Ff, Ff, Ff, Tt, Ff, Ff, Ff, Ff, Ff, Ff, Ff, Ff] ((9, .o 9) :: (30, .o 9) :: (31, .d (rows R)) :: (36, .d (ints b)) :: co5E R b n w k) ((9, .own 1 22 (((alM R b n).take k).map fun r => [ints r])) :: co5M R b n w k) ?_ (fun h_17 => ?_)
   ·refine .st [2, 7] ⟨?_, ?_, trivial⟩
    ·refine ⟨_, rfl, ?_⟩
     refine .m ?_; exact .j h_29
    ·refine ⟨_, rfl, ?_⟩
     refine .m ?_; exact .j h_31
   refine .share 12 [Tt, Tt, Ff, Ff, Ff, Ff, Ff, Tt, Ff, Ff, Ff, Ff, Ff, Ff, Ff] ((9, .o 9) :: (30, .o 9) :: (31, .d (rows R)) :: (37, I (k)) :: co5E R b n w k) ((9, .own 1 22 (((alM R b n).take k).map fun r => [ints r])) :: co5M R b n w k) ?_ (fun h_18 => ?_)
   ·refine .st [2, 6] ⟨?_, ?_, trivial⟩
    ·refine ⟨_, rfl, ?_⟩
     refine .m ?_; exact .j h_30
    ·refine ⟨_, rfl, ?_⟩
     refine .m ?_; exact .j h_31
   refine .share 12 [Tt, Ff, Tt, Ff, Ff, Ff, Tt, Ff, Ff, Ff, Ff, Ff, Ff, Ff, Ff] ((9, .o 9) :: (30, .o 9) :: (32, I (k)) :: (36, .d (ints b)) :: co5E R b n w k) ((9, .own 1 22 (((alM R b n).take k).map fun r => [ints r])) :: co5M R b n w k) ?_ (fun h_19 => ?_)
   ·refine .st [1, 7] ⟨?_, ?_, trivial⟩
    ·refine ⟨_, rfl, ?_⟩
     refine .m ?_; exact .j h_29
    ·refine ⟨_, rfl, ?_⟩
     refine .m ?_; exact .j h_32
   refine .share 12 [Tt, Ff, Tt, Ff, Ff, Ff, Ff, Tt, Ff, Ff, Ff, Ff, Ff, Ff, Ff] ((9, .o 9) :: (30, .o 9) :: (32, I (k)) :: (37, I (k)) :: co5E R b n w k) ((9, .own 1 22 (((alM R b n).take k).map fun r => [ints r])) :: co5M R b n w k) ?_ (fun h_20 => ?_)
   ·refine .st [1, 6] ⟨?_, ?_, trivial⟩
    ·refine ⟨_, rfl, ?_⟩
     refine .m ?_; exact .j h_30
    ·refine ⟨_, rfl, ?_⟩
     refine .m ?_; exact .j h_32
   refine .share 12 [Tt, Ff, Ff, Ff, Ff, Ff, Tt, Tt, Ff, Ff, Ff, Ff, Ff, Ff, Ff] ((9, .o 9) :: (30, .o 9) :: (36, .d (ints b)) :: (37, I (k)) :: co5E R b n w k) ((9, .own 1 22 (((alM R b n).take k).map fun r => [ints r])) :: co5M R b n w k) ?_ (fun h_21 => ?_)
   ·refine .st [1, 2, 8] ⟨?_, ?_, ?_, trivial⟩
    ·refine ⟨_, rfl, ?_⟩
     refine .m ?_; exact .j h_31
    ·refine ⟨_, rfl, ?_⟩
     refine .m ?_; exact .j h_32
    ·refine ⟨_, rfl, ?_⟩
     refine .x (OpSem.idxL rfl rfl rfl es22 (by omega) (by omega)) ?_; exact .j h_33
   refine .share 12 [Ff, Tt, Tt, Tt, Ff, Ff, Ff, Ff, Ff, Ff, Ff, Ff, Ff, Ff, Ff] ((9, .o 9) :: (33, .p [ints (nth R k)]) :: co5E R b n w k) ((9, .own 1 22 (((alM R b n).take k).map fun r => [ints r])) :: co5M R b n w k) ?_ (fun h_22 => ?_)
   ·refine .st [0, 4, 6, 7] ⟨?_, ?_, ?_, ?_, trivial⟩
    ·refine ⟨_, rfl, ?_⟩
     refine .m ?_; exact .j h_28
    ·refine ⟨_, rfl, ?_⟩
     refine .x (OpSem.load1 rfl rfl vs22 rfl) ?_; exact .j h_34
    ·refine ⟨_, rfl, ?_⟩
     refine .m ?_; exact .j h_35
    ·refine ⟨_, rfl, ?_⟩
     refine .m ?_; exact .j h_36
   refine .share 12 [Ff, Tt, Tt, Ff, Ff, Ff, Tt, Ff, Ff, Ff, Ff, Ff, Ff, Ff, Ff] ((9, .o 9) :: (31, .d (rows R)) :: (32, I (k)) :: (36, .d (ints b)) :: co5E R b n w k) ((9, .own 1 22 (((alM R b n).take k).map fun r => [ints r])) :: co5M R b n w k) ?_ (fun h_23 => ?_)
   ·refine .st [0, 3, 7] ⟨?_, ?_, ?_, trivial⟩
    ·refine ⟨_, rfl, ?_⟩
     refine .m ?_; exact .j h_29
    ·refine ⟨_, rfl, ?_⟩
     refine .x (OpSem.idxL rfl rfl rfl es37 (by omega) (by omega)) ?_; exact .j h_35
    ·refine ⟨_, rfl, ?_⟩
     refine .m ?_; exact .j h_37
   refine .share 12 [Ff, Tt, Tt, Ff, Ff, Ff, Ff, Tt, Ff, Ff, Ff, Ff, Ff, Ff, Ff] ((9, .o 9) :: (31, .d (rows R)) :: (32, I (k)) :: (37, I (k)) :: co5E R b n w k) ((9, .own 1 22 (((alM R b n).take k).map fun r => [ints r])) :: co5M R b n w k) ?_ (fun h_24 => ?_)
   ·refine .st [0, 3, 6] ⟨?_, ?_, ?_, trivial⟩
    ·refine ⟨_, rfl, ?_⟩
     refine .m ?_; exact .j h_30
    ·refine ⟨_, rfl, ?_⟩
     refine .x (OpSem.idxL rfl rfl rfl es37 (by omega) (by omega)) ?_; exact .j h_36
    ·refine ⟨_, rfl, ?_⟩
     refine .m ?_; exact .j h_37
   refine .share 12 [Ff, Tt, Ff, Ff, Ff, Ff, Tt, Tt, Ff, Ff, Ff, Ff, Ff, Ff, Ff] ((9, .o 9) :: (31, .d (rows R)) :: (36, .d (ints b)) :: (37, I (k)) :: co5E R b n w k) ((9, .own 1 22 (((alM R b n).take k).map fun r => [ints r])) :: co5M R b n w k) ?_ (fun h_25 => ?_)
   ·refine .st [0, 2, 8] ⟨?_, ?_, ?_, trivial⟩
    ·refine ⟨_, rfl, ?_⟩
     refine .m ?_; exact .j h_31
    ·refine ⟨_, rfl, ?_⟩
     refine .m ?_; exact .j h_37
    ·refine ⟨_, rfl, ?_⟩
     refine .x (OpSem.idxL rfl rfl rfl es22 (by omega) (by omega)) ?_; exact .j h_38
   refine .share 12 [Ff, Ff, Tt, Ff, Ff, Ff, Tt, Tt, Ff, Ff, Ff, Ff, Ff, Ff, Ff] ((9, .o 9) :: (32, I (k)) :: (36, .d (ints b)) :: (37, I (k)) :: co5E R b n w k) ((9, .own 1 22 (((alM R b n).take k).map fun r => [ints r])) :: co5M R b n w k) ?_ (fun h_26 => ?_)
   ·refine .st [0, 1, 8] ⟨?_, ?_, ?_, trivial⟩
    ·refine ⟨_, rfl, ?_⟩
     refine .m ?_; exact .j h_32
    ·refine ⟨_, rfl, ?_⟩
     refine .m ?_; exact .j h_37
    ·refine ⟨_, rfl, ?_⟩
     refine .x (OpSem.idxL rfl rfl rfl es22 (by omega) (by omega)) ?_; exact .j h_39
   refine .share 12 [Ff, Ff, Ff, Ff, Ff, Ff, Tt, Tt, Tt, Ff, Ff, Ff, Ff, Ff, Ff] ((9, .o 9) :: (38, .p [.v (.int .i64 (nth b k))]) :: co5E R b n w k) ((9, .own 1 22 (((alM R b n).take k).map fun r => [ints r])) :: co5M R b n w k) ?_ (fun h_27 => ?_)
   ·refine .st [0, 1, 2, 9] ⟨?_, ?_, ?_, ?_, trivial⟩
    ·refine ⟨_, rfl, ?_⟩
     refine .m ?_; exact .j h_33
    ·refine ⟨_, rfl, ?_⟩
     refine .m ?_; exact .j h_38
    ·refine ⟨_, rfl, ?_⟩
     refine .m ?_; exact .j h_39
    ·refine ⟨_, rfl, ?_⟩
     refine .x (OpSem.load1 rfl rfl vs3 rfl) ?_; exact .j h_40
   refine .share 13 [Tt, Tt, Ff, Ff, Ff, Ff, Ff, Ff, Ff, Ff, Ff, Ff, Ff, Ff, Ff] ((9, .o 9) :: (30, .o 9) :: (31, .d (rows R)) :: co5E R b n w k) ((9, .own 1 22 (((alM R b n).take k).map fun r => [ints r])) :: co5M R b n w k) ?_ (fun h_6 => ?_)
   ·refine .st [2, 6, 7] ⟨?_, ?_, ?_, trivial⟩
    ·refine ⟨_, rfl, ?_⟩
     refine .m ?_; exact .j h_16
    ·refine ⟨_, rfl, ?_⟩
     refine .m ?_; exact .j h_17
    ·refine ⟨_, rfl, ?_⟩
     refine .m ?_; exact .j h_18
   refine .share 13 [Tt, Ff, Tt, Ff, Ff, Ff, Ff, Ff, Ff, Ff, Ff, Ff, Ff, Ff, Ff] ((9, .o 9) :: (30, .o 9) :: (32, I (k)) :: co5E R b n w k) ((9, .own 1 22 (((alM R b n).take k).map fun r => [ints r])) :: co5M R b n w k) ?_ (fun h_7 => ?_)
   ·refine .st [1, 6, 7] ⟨?_, ?_, ?_, trivial⟩
    ·refine ⟨_, rfl, ?_⟩
     refine .m ?_; exact .j h_16
    ·refine ⟨_, rfl, ?_⟩
     refine .m ?_; exact .j h_19
    ·refine ⟨_, rfl, ?_⟩
     refine .m ?_; exact .j h_20
   refine .share 13 [Tt, Ff, Ff, Ff, Ff, Ff, Tt, Ff, Ff, Ff, Ff, Ff, Ff, Ff, Ff] ((9, .o 9) :: (30, .o 9) :: (36, .d (ints b)) :: co5E R b n w k) ((9, .own 1 22 (((alM R b n).take k).map fun r => [ints r])) :: co5M R b n w k) ?_ (fun h_8 => ?_)
   ·refine .st [1, 2, 7] ⟨?_, ?_, ?_, trivial⟩
    ·refine ⟨_, rfl, ?_⟩
     refine .m ?_; exact .j h_17
    ·refine ⟨_, rfl, ?_⟩
     refine .m ?_; exact .j h_19
    ·refine ⟨_, rfl, ?_⟩
     refine .m ?_; exact .j h_21
   refine .share 13 [Tt, Ff, Ff, Ff, Ff, Ff, Ff, Tt, Ff, Ff, Ff, Ff, Ff, Ff, Ff] ((9, .o 9) :: (30, .o 9) :: (37, I (k)) :: co5E R b n w k) ((9, .own 1 22 (((alM R b n).take k).map fun r => [ints r])) :: co5M R b n w k) ?_ (fun h_9 => ?_)
   ·refine .st [1, 2, 6] ⟨?_, ?_, ?_, trivial⟩
    ·refine ⟨_, rfl, ?_⟩
     refine .m ?_; exact .j h_18
    ·refine ⟨_, rfl, ?_⟩
     refine .m ?_; exact .j h_20
    ·refine ⟨_, rfl, ?_⟩
     refine .m ?_; exact .j h_21
   refine .share 13 [Ff, Tt, Tt, Ff, Ff, Ff, Ff, Ff, Ff, Ff, Ff, Ff, Ff, Ff, Ff] ((9, .o 9) :: (31, .d (rows R)) :: (32, I (k)) :: co5E R b n w k) ((9, .own 1 22 (((alM R b n).take k).map fun r => [ints r])) :: co5M R b n w k) ?_ (fun h_10 => ?_)
   ·refine .st [0, 3, 6, 7] ⟨?_, ?_, ?_, ?_, trivial⟩
    ·refine ⟨_, rfl, ?_⟩
     refine .m ?_; exact .j h_16
    ·refine ⟨_, rfl, ?_⟩
     refine .x (OpSem.idxL rfl rfl rfl es37 (by omega) (by omega)) ?_; exact .j h_22
    ·refine ⟨_, rfl, ?_⟩
     refine .m ?_; exact .j h_23
    ·refine ⟨_, rfl, ?_⟩
     refine .m ?_; exact .j h_24
   refine .share 13 [Ff, Tt, Ff, Ff, Ff, Ff, Tt, Ff, Ff, Ff, Ff, Ff, Ff, Ff, Ff] ((9, .o 9) :: (31, .d (rows R)) :: (36, .d (ints b)) :: co5E R b n w k) ((9, .own 1 22 (((alM R b n).take k).map fun r => [ints r])) :: co5M R b n w k) ?_ (fun h_11 => ?_)
   ·refine .st [0, 2, 7] ⟨?_, ?_, ?_, trivial⟩
    ·refine ⟨_, rfl, ?_⟩
     refine .m ?_; exact .j h_17
    ·refine ⟨_, rfl, ?_⟩
     refine .m ?_; exact .j h_23
    ·refine ⟨_, rfl, ?_⟩
     refine .m ?_; exact .j h_25
   refine .share 13 [Ff, Tt, Ff, Ff, Ff, Ff, Ff, Tt, Ff, Ff, Ff, Ff, Ff, Ff, Ff] ((9, .o 9) :: (31, .d (rows R)) :: (37, I (k)) :: co5E R b n w k) ((9, .own 1 22 (((alM R b n).take k).map fun r => [ints r])) :: co5M R b n w k) ?_ (fun h_12 => ?_)
   ·refine .st [0, 2, 6] ⟨?_, ?_, ?_, trivial⟩
    ·refine ⟨_, rfl, ?_⟩
     refine .m ?_; exact .j h_18
    ·refine ⟨_, rfl, ?_⟩
     refine .m ?_; exact .j h_24
    ·refine ⟨_, rfl, ?_⟩
     refine .m ?_; exact .j h_25
   refine .share 13 [Ff, Ff, Tt, Ff, Ff, Ff, Tt, Ff, Ff, Ff, Ff, Ff, Ff, Ff, Ff] ((9, .o 9) :: (32, I (k)) :: (36, .d (ints b)) :: co5E R b n w k) ((9, .own 1 22 (((alM R b n).take k).map fun r => [ints r])) :: co5M R b n w k) ?_ (fun h_13 => ?_)
   ·refine .st [0, 1, 7] ⟨?_, ?_, ?_, trivial⟩
    ·refine ⟨_, rfl, ?_⟩
     refine .m ?_; exact .j h_19
    ·refine ⟨_, rfl, ?_⟩
     refine .m ?_; exact .j h_23
    ·refine ⟨_, rfl, ?_⟩
     refine .m ?_; exact .j h_26
   refine .share 13 [Ff, Ff, Tt, Ff, Ff, Ff, Ff, Tt, Ff, Ff, Ff, Ff, Ff, Ff, Ff] ((9, .o 9) :: (32, I (k)) :: (37, I (k)) :: co5E R b n w k) ((9, .own 1 22 (((alM R b n).take k).map fun r => [ints r])) :: co5M R b n w k) ?_ (fun h_14 => ?_)
   ·refine .st [0, 1, 6] ⟨?_, ?_, ?_, trivial⟩
    ·refine ⟨_, rfl, ?_⟩
     refine .m ?_; exact .j h_20
    ·refine ⟨_, rfl, ?_⟩
     refine .m ?_; exact .j h_24
    ·refine ⟨_, rfl, ?_⟩
     refine .m ?_; exact .j h_26
   refine .share 13 [Ff, Ff, Ff, Ff, Ff, Ff, Tt, Tt, Ff, Ff, Ff, Ff, Ff, Ff, Ff] ((9, .o 9) :: (36, .d (ints b)) :: (37, I (k)) :: co5E R b n w k) ((9, .own 1 22 (((alM R b n).take k).map fun r => [ints r])) :: co5M R b n w k) ?_ (fun h_15 => ?_)
   ·refine .st [0, 1, 2, 8] ⟨?_, ?_, ?_, ?_, trivial⟩
    ·refine ⟨_, rfl, ?_⟩
     refine .m ?_; exact .j h_21
    ·refine ⟨_, rfl, ?_⟩
     refine .m ?_; exact .j h_25
    ·refine ⟨_, rfl, ?_⟩
     refine .m ?_; exact .j h_26
    ·refine ⟨_, rfl, ?_⟩
     refine .x (OpSem.idxL rfl rfl rfl es22 (by omega) (by omega)) ?_; exact .j h_27
   refine .share 14 [Tt, Ff, Ff, Ff, Ff, Ff, Ff, Ff, Ff, Ff, Ff, Ff, Ff, Ff, Ff] ((9, .o 9) :: (30, .o 9) :: co5E R b n w k) ((9, .own 1 22 (((alM R b n).take k).map fun r => [ints r])) :: co5M R b n w k) ?_ (fun h_1 => ?_)
   ·refine .st [1, 2, 6, 7] ⟨?_, ?_, ?_, ?_, trivial⟩
    ·refine ⟨_, rfl, ?_⟩
     refine .m ?_; exact .j h_6
    ·refine ⟨_, rfl, ?_⟩
     refine .m ?_; exact .j h_7
    ·refine ⟨_, rfl, ?_⟩
     refine .m ?_; exact .j h_8
    ·refine ⟨_, rfl, ?_⟩
     refine .m ?_; exact .j h_9
   refine .share 14 [Ff, Tt, Ff, Ff, Ff, Ff, Ff, Ff, Ff, Ff, Ff, Ff, Ff, Ff, Ff] ((9, .o 9) :: (31, .d (rows R)) :: co5E R b n w k) ((9, .own 1 22 (((alM R b n).take k).map fun r => [ints r])) :: co5M R b n w k) ?_ (fun h_2 => ?_)
   ·refine .st [0, 2, 6, 7] ⟨?_, ?_, ?_, ?_, trivial⟩
    ·refine ⟨_, rfl, ?_⟩
     refine .m ?_; exact .j h_6
    ·refine ⟨_, rfl, ?_⟩
     refine .m ?_; exact .j h_10
    ·refine ⟨_, rfl, ?_⟩
     refine .m ?_; exact .j h_11
    ·refine ⟨_, rfl, ?_⟩
     refine .m ?_; exact .j h_12
   refine .share 14 [Ff, Ff, Tt, Ff, Ff, Ff, Ff, Ff, Ff, Ff, Ff, Ff, Ff, Ff, Ff] ((9, .o 9) :: (32, I (k)) :: co5E R b n w k) ((9, .own 1 22 (((alM R b n).take k).map fun r => [ints r])) :: co5M R b n w k) ?_ (fun h_3 => ?_)
   ·refine .st [0, 1, 6, 7] ⟨?_, ?_, ?_, ?_, trivial⟩
    ·refine ⟨_, rfl, ?_⟩
     refine .m ?_; exact .j h_7
    ·refine ⟨_, rfl, ?_⟩
     refine .m ?_; exact .j h_10
    ·refine ⟨_, rfl, ?_⟩
     refine .m ?_; exact .j h_13
    ·refine ⟨_, rfl, ?_⟩
     refine .m ?_; exact .j h_14
   refine .share 14 [Ff, Ff, Ff, Ff, Ff, Ff, Tt, Ff, Ff, Ff, Ff, Ff, Ff, Ff, Ff] ((9, .o 9) :: (36, .d (ints b)) :: co5E R b n w k) ((9, .own 1 22 (((alM R b n).take k).map fun r => [ints r])) :: co5M R b n w k) ?_ (fun h_4 => ?_)
   ·refine .st [0, 1, 2, 7] ⟨?_, ?_, ?_, ?_, trivial⟩
    ·refine ⟨_, rfl, ?_⟩
     refine .m ?_; exact .j h_8
    ·refine ⟨_, rfl, ?_⟩
     refine .m ?_; exact .j h_11
    ·refine ⟨_, rfl, ?_⟩
     refine .m ?_; exact .j h_13
    ·refine ⟨_, rfl, ?_⟩
     refine .m ?_; exact .j h_15
   refine .share 14 [Ff, Ff, Ff, Ff, Ff, Ff, Ff, Tt, Ff, Ff, Ff, Ff, Ff, Ff, Ff] ((9, .o 9) :: (37, I (k)) :: co5E R b n w k) ((9, .own 1 22 (((alM R b n).take k).map fun r => [ints r])) :: co5M R b n w k) ?_ (fun h_5 => ?_)
   ·refine .st [0, 1, 2, 6] ⟨?_, ?_, ?_, ?_, trivial⟩
    ·refine ⟨_, rfl, ?_⟩
     refine .m ?_; exact .j h_9
    ·refine ⟨_, rfl, ?_⟩
     refine .m ?_; exact .j h_12
    ·refine ⟨_, rfl, ?_⟩
     refine .m ?_; exact .j h_14
    ·refine ⟨_, rfl, ?_⟩
     refine .m ?_; exact .j h_15
   refine .st [0, 1, 2, 6, 7] ⟨?_, ?_, ?_, ?_, ?_, trivial⟩
   ·refine ⟨_, rfl, ?_⟩
    refine .m ?_; exact .j h_1
   ·refine ⟨_, rfl, ?_⟩
    refine .m ?_; exact .j h_2
   ·refine ⟨_, rfl, ?_⟩
    refine .m ?_; exact .j h_3
   ·refine ⟨_, rfl, ?_⟩
    refine .m ?_; exact .j h_4
   ·refine ⟨_, rfl, ?_⟩
    refine .m ?_; exact .j h_5
  ·have hk : k = R.length := by simp at c27; omega
   subst hk
   refine .exit ?_; refine .pass_exit ?_; refine .pass_exit ?_; refine .block_same ?_; refine .seq ?_; refine .seq ?_; refine .seq ?_; refine .region ?_; refine .a ?_; refine .sq ?_; refine .block ?_; refine .loop (X := Nat) (fun j => j ≤ n) (fun j => [(2, I (n)), (3, Bo (w)), (9, .o 9), (11, I (j))]) (fun j => [(9, .own 1 22 (((alM R b n).take (R.length + j)).map fun r => [ints r]))]) (fun j => n - j) 0 (by omega) ?_ ?_
   ·exact .sl <| .sl <| .sl <| .slot rfl (Le.of_eq (by simp)) <| .memEq rfl rfl <| .nil
   ·rintro j hjl
    refine .seq ?_; refine .seq ?_; refine .region ?_; refine .m ?_; refine .m ?_; refine .x (.b blss) ?_; refine .sq ?_; refine .cond rfl (fun c46 => ?_) (fun c46 => ?_)
    ·have hj : j < n := by simpa using c46
     refine .skip ?_; refine .seq ?_; refine .seq ?_; refine .block ?_; refine .cut [(2, I (n)), (3, Bo (w)), (9, .o 9), (11, I (j)), (12, .o 51)] [(9, .own 1 22 (((alM R b n).take (R.length + j)).map fun r => [ints r])), (51, .own 1 3 ((List.replicate (n + 1) (0 : Int)).map fun n => [D.v (.int .i64 n)]))] ?_ ?_
     ·refine .region ?_; refine .m ?_; refine .x .ad ?_; refine .semM (OpSem.makeSlice 51 rfl rfl rfl es22 ze22 rfl rfl (by decide) bye22 (by omega) (by omega) (by omega)) rfl rfl (by decide) ?_; refine .a ?_; refine .nil ?_; refine .meet ?_; exact .sl <| .sl <| .sl <| .sl <| .sl <| .mem rfl <| .memEq rfl (by rw [el22, show ((n : Int) + 1).toNat = n + 1 by omega]; simp [List.map_set] <;> rfl) <| .nil
     ·refine .cut [(2, I (n)), (3, Bo (w)), (9, .o 9), (11, I (j)), (12, .o 51)] [(9, .own 1 22 (((alM R b n).take (R.length + j)).map fun r => [ints r])), (51, .own 1 3 (((List.replicate (n + 1) (0 : Int)).set j (-1)).map fun n => [D.v (.int .i64 n)]))] ?_ ?_
      ·refine .region ?_; refine .m ?_; refine .m ?_; refine .x (OpSem.idxo rfl rfl rfl rfl es22 (by omega) (by simp; omega)) ?_; refine .storeq rfl rfl rfl rfl rfl rfl rfl vs3 (rows_get (by omega) (by simp; omega)) (by simp) ?_; refine .nil ?_; refine .meet ?_; exact .sl <| .sl <| .sl <| .sl <| .sl <| .mem rfl <| .memEq rfl (congrArg (Mo.own 1 3) (rows_set (f := fun n => [D.v (.int .i64 n)]))) <| .nil
      ·refine .freeze 51 rfl ?_; refine .region ?_; refine .m ?_; refine .m ?_; refine .x (.bs es37 ze37) ?_; refine .ap es37 el37 zc22 by22 ?_; refine .a ?_; refine .nil ?_; refine .block_normal ?_; refine .y ?_; refine .m ?_; refine .x .ad ?_; refine .a ?_; refine .nil ?_; refine .again (j + 1) (by omega) ?_ (by omega); exact .sl <| .sl <| .sl <| .slot rfl (Le.of_eq (by simp)) <| .memEq rfl (by rw [al_tk2 hj, List.map_append]; rfl) <| .nil
    ·have hj : n = j := by simp at c46; omega
     subst hj
     refine .exit ?_; refine .pass_exit ?_; refine .pass_exit ?_; refine .block_same ?_; refine .z ?_; refine .a ?_; refine .sq ?_; refine .cut [(2, I (n)), (9, .o 9), (13, .o 13)] [(9, .own 1 22 ((alM R b n).map fun r => [ints r])), (13, .own 1 22 ((fxR n w).map fun r => [ints r]))] ?_ ?_
     ·refine .seq ?_; refine .ownNil (n := 13) 13 1 22 rfl ?_; refine .region ?_; refine .m ?_; refine .sq ?_; refine .cond rfl (fun c59 => ?_) (fun c59 => ?_)
      ·have hw1 : w = true := c59
       refine .seq ?_; refine .region ?_; refine .m ?_; refine .x .ad ?_; refine .semM (OpSem.makeSlice 62 rfl rfl rfl es22 ze22 rfl rfl (by decide) bye22 (by omega) (by omega) (by omega)) rfl rfl (by decide) ?_; refine .a ?_; refine .sq ?_; refine .seq ?_; refine .seq ?_; refine .region ?_; refine .a ?_; refine .sq ?_; refine .block ?_; refine .loop (X := Nat) (fun k => k ≤ n + 1) (fun k => [(2, I (n)), (9, .o 9), (13, .o 13), (14, .o 62), (15, I (k))]) (fun k => [(9, .own 1 22 (((alM R b n).take (R.length + n)).map fun r => [ints r])), (13, .own 1 22 (([] : List (List Int)).map fun r => [ints r])), (62, .own 1 3 ((onT n k).map fun n => [D.v (.int .i64 n)]))]) (fun k => n + 1 - k) 0 (by omega) ?_ ?_
       ·exact .sl <| .sl <| .sl <| .sl <| .slot rfl (Le.of_eq (by simp)) <| .memEq rfl rfl <| .memEq rfl rfl <| .memEq rfl (by rw [el22, show ((n : Int) + 1).toNat = n + 1 by omega, onT_0]; simp <;> rfl) <| .nil
       ·rintro k hkl
        refine .seq ?_; refine .seq ?_; refine .region ?_; refine .m ?_; refine .m ?_; refine .x (.b bleq) ?_; refine .sq ?_; refine .cond rfl (fun c65 => ?_) (fun c65 => ?_)
        ·have hk : k < n + 1 := by simp at c65; omega
         refine .skip ?_; refine .seq ?_; refine .seq ?_; refine .block ?_; refine .region ?_; refine .m ?_; refine .m ?_; refine .x (OpSem.idxo rfl rfl rfl rfl es22 (by omega) (by simp [onT_len]; omega)) ?_; refine .storeq rfl rfl rfl rfl rfl rfl rfl vs3 (rows_get (by omega) (by rw [onT_len]; omega)) (by simp) ?_; refine .nil ?_; refine .block_normal ?_; refine .y ?_; refine .m ?_; refine .x .ad ?_; refine .a ?_; refine .nil ?_; refine .again (k + 1) (by omega) ?_ (by omega); exact .sl <| .sl <| .sl <| .sl <| .slot rfl (Le.of_eq (by simp)) <| .mem rfl <| .mem rfl <| .memEq rfl (by rw [← onT_s hk]; exact congrArg (Mo.own 1 3) (rows_set (f := fun n => [D.v (.int .i64 n)]))) <| .nil
        ·have hk : k = n + 1 := by simp at c65; omega
         subst hk
         rw [onT_end]
         refine .exit ?_; refine .pass_exit ?_; refine .pass_exit ?_; refine .block_same ?_; refine .seq ?_; refine .freeze 62 rfl ?_; refine .region ?_; refine .m ?_; refine .m ?_; refine .x (.bs es37 ze37) ?_; refine .append rfl rfl rfl (by decide) rfl rfl rfl es37 el37 zc22 rfl by22 (by simp [D.one, Value.oneCell']) (by simp [maxLen]) (by simp) ?_; refine .a ?_; refine .nil ?_; refine .meet ?_; exact .sl <| .sl <| .sl <| .memEq rfl (by rw [al_end] <;> rfl) <| .memEq rfl (by rw [hw1]; simp [fxR] <;> rfl) <| .nil
      ·have hw1 : w = false := c59
       refine .skip ?_; refine .meet ?_; exact .sl <| .sl <| .sl <| .memEq rfl (by rw [al_end] <;> rfl) <| .memEq rfl (by rw [hw1]; simp [fxR] <;> rfl) <| .nil
     ·refine .seq ?_; refine .region ?_; refine .a ?_; refine .sq ?_; refine .seq ?_; refine .seq ?_; refine .ownNil (n := 16) 16 2 83 rfl ?_; refine .freeze 9 rfl ?_; refine .freeze 13 rfl ?_; refine .region ?_; refine .a ?_; refine .sq ?_; refine .block ?_; refine .loop (X := Nat) (fun k => k ≤ 2 ^ (alM R b n).length) (fun k => [(2, I (n)), (9, .d (rows (alM R b n))), (13, .d (rows (fxR n w))), (16, .o 16), (17, I (k))]) (fun k => [(16, .own 2 83 ((coT (alM R b n) (fxR n w) n k).map vecC))]) (fun k => 2 ^ (alM R b n).length - k) 0 (Nat.zero_le _) ?_ ?_
      ·exact .sl <| .sl <| .sl <| .sl <| .slot rfl (Le.of_eq (by simp)) <| .memEq rfl rfl <| .nil
      ·rintro k hkl
       refine .seq ?_; refine .seq ?_; refine .region ?_; refine .m ?_; refine .m ?_; refine .x (OpSem.lenL rfl rfl es37) ?_; refine .x (OpSem.bin rfl rfl rfl (bshl1 (by omega) (by omega))) ?_; refine .x (.b blss) ?_; refine .sq ?_; refine .cond rfl (fun c79 => ?_) (fun c79 => ?_)
       ·have hk : k < 2 ^ (alM R b n).length := Int.ofNat_lt.1 (by have h := of_decide_eq_true c79; rwa [Int.toNat_natCast] at h)
        have hcl := coT_len (A := (alM R b n)) (F := (fxR n w)) (n := n) (k := k)
        refine .skip ?_; refine .seq ?_; refine .seq ?_; refine .block ?_; refine .seq ?_; refine .region ?_; refine .m ?_; refine .semM (OpSem.appendNil 83 rfl rfl rfl es37 el37 zc22 rfl (by decide) by22 (fun r hr => by obtain ⟨x, _, rfl⟩ := List.mem_map.1 hr; rfl) (by simp [maxLen]; omega) (by simp; omega)) rfl rfl (by decide) ?_; refine .a ?_; refine .sq ?_; refine .cut [(2, I (n)), (9, .d (rows (alM R b n))), (13, .d (rows (fxR n w))), (16, .o 16), (17, I (k)), (18, .o 83)] [(16, .own 2 83 ((coT (alM R b n) (fxR n w) n k).map vecC)), (83, .own 1 22 ((slT (alM R b n) (fxR n w) n k (alM R b n).length).map fun r => [ints r]))] ?_ ?_
        ·refine .seq ?_; refine .region ?_; refine .a ?_; refine .sq ?_; refine .block ?_; refine .loop (X := Nat) (fun i => i ≤ (alM R b n).length) (fun i => [(2, I (n)), (9, .d (rows (alM R b n))), (13, .d (rows (fxR n w))), (16, .o 16), (17, I (k)), (18, .o 83), (19, I (i))]) (fun i => [(16, .own 2 83 ((coT (alM R b n) (fxR n w) n k).map vecC)), (83, .own 1 22 ((slT (alM R b n) (fxR n w) n k i).map fun r => [ints r]))]) (fun i => (alM R b n).length - i) 0 (by omega) ?_ ?_
         ·exact .sl <| .sl <| .sl <| .sl <| .sl <| .sl <| .slot rfl (Le.of_eq (by simp)) <| .memEq rfl rfl <| .memEq rfl rfl <| .nil
         ·rintro i hil
          refine .seq ?_; refine .seq ?_; refine .region ?_; refine .m ?_; refine .m ?_; refine .x (OpSem.lenL rfl rfl es37) ?_; refine .x (.b blss) ?_; refine .m ?_; refine .split (n := 88) rfl (fun c88 => ?_) (fun c88 => ?_)
          ·have hi : i < (alM R b n).length := by simpa using c88
           have hsl := slT_len (A := (alM R b n)) (F := (fxR n w)) (n := n) (w := k) (k := i)
           refine .gt c88 ?_; refine .m ?_; refine .gt c88 ?_; refine .x (OpSem.leno rfl rfl rfl es37) ?_; refine .gt c88 ?_; refine .m ?_; refine .gt c88 ?_; refine .x (.b bleq) ?_; refine .x (OpSem.pickT rfl rfl c88 rfl) ?_; refine .sq ?_; refine .cond rfl (fun c93 => ?_) (fun c93 => ?_)
           ·have hle : (slT (alM R b n) (fxR n w) n k i).length ≤ n := by simp at c93; omega
            refine .skip ?_; refine .seq ?_; refine .seq ?_; refine .block ?_; refine .seq ?_; refine .region ?_; refine .m ?_; refine .m ?_; refine .x (OpSem.bin rfl rfl rfl (bshrK (by omega) (by show (i : Int) ≤ 64; omega))) ?_; refine .x (OpSem.bin rfl rfl rfl (band1 (shr_in2 (by omega)).1 (shr_in2 (by omega)).2)) ?_; refine .x (.b beql) ?_; refine .sq ?_; refine .cond rfl (fun c100 => ?_) (fun c100 => ?_)
            ·have hbit := bit_1 (w := k) (i := i) (by simpa using c100)
             refine .region ?_; refine .m ?_; refine .m ?_; refine .m ?_; refine .x (OpSem.idxL rfl rfl rfl es37 (by omega) (by omega)) ?_; refine .x (OpSem.load1 rfl rfl vs22 rfl) ?_; refine .x (.bs es37 ze37) ?_; refine .ap es37 el37 zc22 by22 ?_; refine .a ?_; refine .nil ?_; refine .block_normal ?_; refine .y ?_; refine .m ?_; refine .x .ad ?_; refine .a ?_; refine .nil ?_; refine .again (i + 1) (by omega) ?_ (by omega); exact .sl <| .sl <| .sl <| .sl <| .sl <| .sl <| .slot rfl (Le.of_eq (by simp)) <| .mem rfl <| .memEq rfl (by rw [slT_t hle hbit]; simp) <| .nil
            ·have hbit := bit_0 (w := k) (i := i) (by simpa using c100)
             refine .skip ?_; refine .block_normal ?_; refine .y ?_; refine .m ?_; refine .x .ad ?_; refine .a ?_; refine .nil ?_; refine .again (i + 1) (by omega) ?_ (by omega); exact .sl <| .sl <| .sl <| .sl <| .sl <| .sl <| .slot rfl (Le.of_eq (by simp)) <| .mem rfl <| .memEq rfl (by rw [slT_f hbit]) <| .nil
           ·have hO : (slT (alM R b n) (fxR n w) n k i) = (slT (alM R b n) (fxR n w) n k (alM R b n).length) := by have := slT_over (A := (alM R b n)) (F := (fxR n w)) (n := n) (w := k) (k := i) (by simp at c93; omega) ((alM R b n).length - i); rw [← this]; congr 1; omega
            refine .exit ?_; refine .pass_exit ?_; refine .pass_exit ?_; refine .block_same ?_; refine .meet ?_; exact .sl <| .sl <| .sl <| .sl <| .sl <| .sl <| .mem rfl <| .memEq rfl (by rw [hO]) <| .nil
          ·have hi : i = (alM R b n).length := by simp at c88; omega
           have hO : (slT (alM R b n) (fxR n w) n k i) = (slT (alM R b n) (fxR n w) n k (alM R b n).length) := by rw [hi]
           refine .gf c88 ?_; refine .gf c88 ?_; refine .gf c88 ?_; refine .gf c88 ?_; refine .x (OpSem.pickF rfl rfl c88 rfl) ?_; refine .sq ?_; refine .condF rfl rfl ?_; refine .exit ?_; refine .pass_exit ?_; refine .pass_exit ?_; refine .block_same ?_; refine .meet ?_; exact .sl <| .sl <| .sl <| .sl <| .sl <| .sl <| .mem rfl <| .memEq rfl (by rw [hO]) <| .nil
        ·refine .seq ?_; refine .seq ?_; refine .region ?_; refine .m ?_; refine .x (OpSem.leno rfl rfl rfl es37) ?_; refine .m ?_; refine .x (.b bneq) ?_; refine .sq ?_; refine .cond rfl (fun c111 => ?_) (fun c111 => ?_)
         ·have hT := coT_n (coW_1 (A := (alM R b n)) (F := (fxR n w)) (n := n) (w := k) (by simp at c111; omega))
          refine .exit ?_; refine .pass_exit ?_; refine .block_same ?_; refine .y ?_; refine .m ?_; refine .x .ad ?_; refine .a ?_; refine .nil ?_; refine .again (k + 1) (by omega) ?_ (by omega); exact .sl <| .sl <| .sl <| .sl <| .slot rfl (Le.of_eq (by simp)) <| .memEq rfl (by rw [hT] <;> rfl) <| .nil
         ·have hl : (slT (alM R b n) (fxR n w) n k (alM R b n).length).length = n := by simp at c111; omega
          have hsq := hA.sq hl
          refine .skip ?_; refine .seq ?_; refine .seq ?_; refine .freeze 83 rfl ?_; refine .region ?_; refine .m ?_; refine .x (OpSem.call0 (S3_eliminated_does (slT (alM R b n) (fxR n w) n k (alM R b n).length) hsq) rfl rfl rfl rfl (Les.refl _)) ?_; refine .m ?_; refine .x (OpSem.extract rfl rfl rfl) ?_; refine .x (OpSem.extract rfl rfl rfl) ?_; refine .x (OpSem.extract rfl rfl rfl) ?_; refine .a ?_; refine .a ?_; refine .a ?_; refine .sq ?_; refine .seq ?_; refine .seq ?_; refine .region ?_; refine .m ?_; refine .x (OpSem.not rfl rfl) ?_; refine .sq ?_; refine .cond rfl (fun c119 => ?_) (fun c119 => ?_)
          ·have hT := coT_n (coW_2 (A := (alM R b n)) (F := (fxR n w)) (n := n) (w := k) (elO_f (by simpa using c119)))
           refine .exit ?_; refine .pass_exit ?_; refine .block_same ?_; refine .y ?_; refine .m ?_; refine .x .ad ?_; refine .a ?_; refine .nil ?_; refine .again (k + 1) (by omega) ?_ (by omega); exact .sl <| .sl <| .sl <| .sl <| .slot rfl (Le.of_eq (by simp)) <| .memEq rfl (by rw [hT] <;> rfl) <| .nil
          ·have hE := elO_t (m := (slT (alM R b n) (fxR n w) n k (alM R b n).length)) (by simpa using c119)
           obtain ⟨hxl, hxd, hxx, _⟩ := ga_some hsq hE
           rw [hl] at hxl hxx
           have hok : (elO (slT (alM R b n) (fxR n w) n k (alM R b n).length)).2.2 = true := by simpa using c119
           refine .skip ?_; refine .seq ?_; refine .seq ?_; refine .seq ?_; refine .region ?_; refine .a ?_; refine .sq ?_; refine .block ?_; refine .loop (X := Nat) (fun i => i ≤ (alM R b n).length) (fun i => [(2, I (n)), (9, .d (rows (alM R b n))), (13, .d (rows (fxR n w))), (16, .o 16), (17, I (k)), (20, .d (ints ((elO (slT (alM R b n) (fxR n w) n k (alM R b n).length)).1))), (21, I ((elO (slT (alM R b n) (fxR n w) n k (alM R b n).length)).2.1)), (22, Bo ((okC (alM R b n) n ((elO (slT (alM R b n) (fxR n w) n k (alM R b n).length)).1) ((elO (slT (alM R b n) (fxR n w) n k (alM R b n).length)).2.1) i))), (23, I (i))]) (fun i => [(16, .own 2 83 ((coT (alM R b n) (fxR n w) n k).map vecC))]) (fun i => (alM R b n).length - i) 0 (by omega) ?_ ?_
           ·exact .sl <| .sl <| .sl <| .sl <| .sl <| .sl <| .sl <| .slot rfl (Le.bo (by rw [hok]; rfl)) <| .slot rfl (Le.of_eq (by simp)) <| .memEq rfl rfl <| .nil
           ·rintro i hil
            refine .seq ?_; refine .seq ?_; refine .region ?_; refine .m ?_; refine .m ?_; refine .x (OpSem.lenL rfl rfl es37) ?_; refine .x (.b blss) ?_; refine .sq ?_; refine .cond rfl (fun c123 => ?_) (fun c123 => ?_)
            ·have hi : i < (alM R b n).length := by simpa using c123
             have hpd := pdN_in hn6 (hAr i hi).1 (hAr i hi).2 hxx
             have hce := (hAr i hi).2 _ (nth_mem (l := (nth (alM R b n) i)) (n := (n : Int)) (by omega) (by have := (hAr i hi).1; omega))
             have hml := mul_abs (A := 1) (B := 720) (a := nth (nth (alM R b n) i) n) (b := (elO (slT (alM R b n) (fxR n w) n k (alM R b n).length)).2.1) (by omega) (by omega)
             refine .skip ?_; refine .seq ?_; refine .seq ?_; refine .block ?_; refine .seq ?_; refine PC.start [] ?_; refine .m ?_; refine .m ?_; refine .x (OpSem.idxL rfl rfl rfl es37 (by omega) (by omega)) ?_; refine .x (OpSem.load1 rfl rfl vs22 rfl) ?_; refine .m ?_; refine .x (OpSem.sliceH rfl rfl rfl es22 (by omega) (by have := (hAr i hi).1; omega)) ?_; refine .m ?_; refine .x (OpSem.le (s' := I (pdN n (nth (alM R b n) i) ((elO (slT (alM R b n) (fxR n w) n k (alM R b n).length)).1))) (OpSem.call0 (S3_Product_does ((nth (alM R b n) i).take n) ((elO (slT (alM R b n) (fxR n w) n k (alM R b n).length)).1) (by rw [hxl, List.length_take]; have := (hAr i hi).1; omega) (pd_tk_in hn6 (hAr i hi).1 (hAr i hi).2 hxx)) rfl rfl rfl rfl (Les.refl _)) (Le.i (pd_take (hAr i hi).1))) ?_; refine .m ?_; refine .m ?_; refine .x (OpSem.idxL rfl rfl rfl es37 (by omega) (by omega)) ?_; refine .x (OpSem.load1 rfl rfl vs22 rfl) ?_; refine .m ?_; refine .x (OpSem.idxL rfl rfl rfl es22 (by omega) (by have := (hAr i hi).1; omega)) ?_; refine .x (OpSem.load1 rfl rfl vs3 rfl) ?_; refine .m ?_; refine .x (OpSem.bin rfl rfl rfl (bmul (by omega) (by omega))) ?_; refine .d0 mixed ?_; refine .x (.b bgtr) ?_; refine .sq ?_; refine .cond rfl (fun c143 => ?_) (fun c143 => ?_)
             ·have hst := okC_f (A := (alM R b n)) (n := n) (x := (elO (slT (alM R b n) (fxR n w) n k (alM R b n).length)).1) (d := (elO (slT (alM R b n) (fxR n w) n k (alM R b n).length)).2.1) (k := i) (by unfold ce; simp at c143; omega)
              refine .region ?_; refine .a ?_; refine .nil ?_; refine .block_normal ?_; refine .y ?_; refine .m ?_; refine .x .ad ?_; refine .a ?_; refine .nil ?_; refine .again (i + 1) (by omega) ?_ (by omega); exact .sl <| .sl <| .sl <| .sl <| .sl <| .sl <| .sl <| .slot rfl (Le.bo (by rw [hst])) <| .slot rfl (Le.of_eq (by simp)) <| .mem rfl <| .nil
             ·have hst := okC_t (A := (alM R b n)) (n := n) (x := (elO (slT (alM R b n) (fxR n w) n k (alM R b n).length)).1) (d := (elO (slT (alM R b n) (fxR n w) n k (alM R b n).length)).2.1) (k := i) (by unfold ce; simp at c143; omega)
              refine .skip ?_; refine .block_normal ?_; refine .y ?_; refine .m ?_; refine .x .ad ?_; refine .a ?_; refine .nil ?_; refine .again (i + 1) (by omega) ?_ (by omega); exact .sl <| .sl <| .sl <| .sl <| .sl <| .sl <| .sl <| .slot rfl (Le.bo (by rw [hst])) <| .slot rfl (Le.of_eq (by simp)) <| .mem rfl <| .nil
            ·have hi : i = (alM R b n).length := by simp at c123; omega
             subst hi
             refine .exit ?_; refine .pass_exit ?_; refine .pass_exit ?_; refine .block_same ?_; refine .z ?_; refine .m ?_; refine .sq ?_; refine .cond rfl (fun c144 => ?_) (fun c144 => ?_)
             ·have hT := coT_c (coW_4 hl hE c144)
              refine .region ?_; refine .m ?_; refine .m ?_; refine .m ?_; refine .x (OpSem.build rfl rfl pl83 zc83 rfl rfl) ?_; refine .x (.bs es79 ze79) ?_; refine .ap es79 el79 zc83 by83 ?_; refine .a ?_; refine .nil ?_; refine .block_normal ?_; refine .y ?_; refine .m ?_; refine .x .ad ?_; refine .a ?_; refine .nil ?_; refine .again (k + 1) (by omega) ?_ (by omega); exact .sl <| .sl <| .sl <| .sl <| .slot rfl (Le.of_eq (by simp)) <| .memEq rfl (by rw [hT]; simp <;> rfl) <| .nil
             ·have hT := coT_n (coW_3 hE c144)
              refine .skip ?_; refine .block_normal ?_; refine .y ?_; refine .m ?_; refine .x .ad ?_; refine .a ?_; refine .nil ?_; refine .again (k + 1) (by omega) ?_ (by omega); exact .sl <| .sl <| .sl <| .sl <| .slot rfl (Le.of_eq (by simp)) <| .memEq rfl (by rw [hT] <;> rfl) <| .nil
       ·have hk : k = 2 ^ (alM R b n).length := Nat.le_antisymm hkl (Int.ofNat_le.1 (Int.not_lt.1 (by have h := of_decide_eq_false c79; rwa [Int.toNat_natCast] at h)))
        subst hk
        refine .exit ?_; refine .pass_exit ?_; refine .pass_exit ?_; refine .block_same ?_; refine .seq ?_; refine .seq ?_; refine .freeze 16 rfl ?_; refine .region ?_; refine .m ?_; refine .a ?_; refine .sq ?_; refine .ret ?_; exact .ret rfl (.tmp rfl <| .nil) rfl (.refl _)

end Go.Proofs.Ytlidcpmdgceboaa
end

section
/- Walks, written by gen.py out of hints. -/


namespace Go.Proofs.Ytlidcpmdgceboaa
open Go.Eng
set_option maxRecDepth 10000
set_option maxHeartbeats 1000000

theorem S3_LinearValue_does (p : LPr) (hp : LpC p) : Does Try.prog false 18 [lprS p] (.t [I (lvS p), I (lvN p).1, I (lvN p).2]) := by
 have z1 := hp.ok.r6
 have z2 := hp.ok.o6
 have z3 := hp.ok.b
 have z4 : (lvL p).length ≤ 4096 := coF_len (lp_al hp)
 have z5 : (ryL p).length ≤ 4096 := coF_len (ry_al hp)
 refine Does.of_body Try.func18 rfl rfl (by simp) Try.call18 (fun w0 O0 => ?_); refine .lenG (n := 0) (i := 0) rfl rfl (fun len0_0 => ?_); refine .lenG (n := 0) (i := 1) rfl rfl (fun len0_1 => ?_); refine .lenG (n := 0) (i := 2) rfl rfl (fun len0_2 => ?_); refine .seq ?_; refine .region ?_; refine .semM (OpSem.box 1 rfl rfl rfl rfl) rfl rfl (by decide) ?_; refine .a ?_; refine .a ?_; refine .a ?_; refine .z ?_; refine .x (.f fo39_2) ?_; refine .x (.l vs22) ?_; refine .x (OpSem.lenL rfl rfl es22) ?_; refine .a ?_; refine .z ?_; refine .x (.f fo39_0) ?_; refine .x (.l vs37) ?_; refine .x (.f fo39_1) ?_; refine .x (.l vs22) ?_; refine .m ?_; refine .x (OpSem.le (s' := .d (vecsD (lvL p))) (OpSem.call0 (S3_corners_does p.rws p.bnd p.obj.length false (lp_al hp) (by omega) hp.ok.w) rfl rfl rfl rfl (Les.refl _)) (Le.of_eq rfl)) ?_; refine .a ?_; refine .sq ?_; refine .seq ?_; refine .seq ?_; refine .region ?_; refine .m ?_; refine .x (OpSem.lenL rfl rfl es79) ?_; refine .x (.b beql) ?_; refine .sq ?_; refine .cond rfl (fun c24 => ?_) (fun c24 => ?_)
 ·have hl : lvL p = [] := List.length_eq_zero_iff.1 (by simp at c24; simpa using c24)
  obtain ⟨e1, e2⟩ := lvS_0 hl
  refine .seq ?_; refine .region ?_; refine .a ?_; refine .a ?_; refine .a ?_; refine .sq ?_; refine .ret ?_; refine .pass_ret ?_; exact .ret rfl (.tmp rfl <| .tmp rfl <| .tmp rfl <| .nil) rfl (Le.t (.cons (Le.i (by rw [e1])) <| .cons (Le.i (by rw [e2])) <| .cons (Le.i (by rw [e2])) <| .nil))
 ·have hl : lvL p ≠ [] := fun h => by rw [h] at c24; simp at c24
  have hpos : 0 < (lvL p).length := List.length_pos_iff.2 hl
  obtain ⟨e1, e2⟩ := lvS_1 hl
  have hc0 : Cor (alM p.rws p.bnd p.obj.length) p.obj.length (nth (lvL p) 0) := lvL_at hp hpos
  refine .skip ?_; refine .seq ?_; refine .cut [(1, .r 1 0), (6, .d (vecsD (lvL p)))] [(1, .box [.d (rows p.rws), .d (ints p.bnd), .d (ints p.obj)])] ?_ ?_
  ·refine .seq ?_; refine .region ?_; refine .m ?_; refine .x (.b bgtr) ?_; refine .sq ?_; refine .cond rfl (fun c26 => ?_) (fun c26 => ?_)
   ·refine .seq ?_; refine PC.start [] ?_; refine .x (.f fo39_0) ?_; refine .x (.l vs37) ?_; refine .x (.f fo39_0) ?_; refine .x (.l vs37) ?_; refine .x (OpSem.lenL rfl rfl es37) ?_; refine .semM (OpSem.makeSlice 32 rfl rfl rfl es22 ze22 rfl rfl (by decide) bye22 (by omega) (by omega) (by omega)) rfl rfl ?_; refine .m ?_; refine .d1 32 (.own 1 3 (List.replicate (p.rws.length : Int).toNat (List.map D.v [Value.int .i64 0]))) mixed ?_; refine .memEq (h := 32) (m' := .own 1 3 ((List.replicate p.rws.length (0 : Int)).map fun n => [D.v (.int .i64 n)])) rfl (by simp <;> rfl) ?_; refine .freeze 32 rfl ?_; refine .x (OpSem.le (s' := .d (vecsD (ryL p))) (OpSem.call0 (S3_corners_does p.rws (List.replicate p.rws.length 0) p.obj.length true (ry_al hp) (by simp) hp.ok.w) rfl rfl rfl rfl (Les.refl _)) (Le.of_eq rfl)) ?_; refine .a ?_; refine .z ?_; refine .a ?_; refine .sq ?_; refine .block ?_; refine .loop (X := Nat) (fun k => k ≤ (ryL p).length) (fun k => [(1, .r 1 0), (6, .d (vecsD (lvL p))), (7, .d (vecsD (ryL p))), (8, I (k))]) (fun k => [(1, .box [.d (rows p.rws), .d (ints p.bnd), .d (ints p.obj)])]) (fun k => (ryL p).length - k) 0 (by omega) ?_ ?_
    ·exact .sl <| .sl <| .sl <| .slot rfl (Le.of_eq (by simp)) <| .mem rfl <| .nil
    ·rintro k hkl
     refine .seq ?_; refine .seq ?_; refine .region ?_; refine .m ?_; refine .m ?_; refine .x (OpSem.lenL rfl rfl es79) ?_; refine .x (.b blss) ?_; refine .sq ?_; refine .cond rfl (fun c38 => ?_) (fun c38 => ?_)
     ·have hk : k < (ryL p).length := by simpa using c38
      obtain ⟨hrc, hrl⟩ := ry_le hp hk
      refine .skip ?_; refine .seq ?_; refine .seq ?_; refine .block ?_; refine .seq ?_; refine PC.start [] ?_; refine .x (.f fo39_2) ?_; refine .x (.l vs22) ?_; refine .m ?_; refine .m ?_; refine .x (OpSem.idxL rfl rfl rfl es79 (by omega) (by omega)) ?_; refine .x (OpSem.fieldp rfl rfl fo83_0) ?_; refine .x (OpSem.load1 rfl rfl vs22 rfl) ?_; refine .d0 mixed ?_; refine .x (OpSem.le (s' := I (pdN p.obj.length p.obj (nth (ryL p) k).1)) (OpSem.call0 (S3_Product_does p.obj (nth (ryL p) k).1 hrc.l.symm (obj_pd hp hrc.x).1) rfl rfl rfl rfl (Les.refl _)) (Le.i rfl)) ?_; refine .x (.b bgtr) ?_; refine .sq ?_; refine .cond rfl (fun c49 => ?_) (fun c49 => ?_)
      ·exfalso; simp at c49; omega
      ·refine .skip ?_; refine .block_normal ?_; refine .y ?_; refine .m ?_; refine .x .ad ?_; refine .a ?_; refine .nil ?_; refine .again (k + 1) (by omega) ?_ (by omega); exact .sl <| .sl <| .sl <| .slot rfl (Le.of_eq (by simp)) <| .mem rfl <| .nil
     ·refine .exit ?_; refine .pass_exit ?_; refine .pass_exit ?_; refine .block_same ?_; refine .meet ?_; exact .all
   ·refine .skip ?_; refine .meet ?_; exact .all
  ·refine .seq ?_; refine PC.start [] ?_; refine .x (.f fo39_2) ?_; refine .x (.l vs22) ?_; refine .m ?_; refine .x (OpSem.idxL rfl rfl rfl es79 (by omega) (by omega)) ?_; refine .x (OpSem.fieldp rfl rfl fo83_0) ?_; refine .x (OpSem.load1 rfl rfl vs22 rfl) ?_; refine .d0 mixed ?_; refine .x (OpSem.le (s' := I (pdN p.obj.length p.obj (nth (lvL p) 0).1)) (OpSem.call0 (S3_Product_does p.obj (nth (lvL p) 0).1 hc0.l.symm (obj_pd hp hc0.x).1) rfl rfl rfl rfl (Les.refl _)) (Le.i rfl)) ?_; refine .a ?_; refine .z ?_; refine .m ?_; refine .x (OpSem.idxL rfl rfl rfl es79 (by omega) (by omega)) ?_; refine .x (OpSem.fieldp rfl rfl fo83_1) ?_; refine .x (OpSem.load1 rfl rfl vs3 rfl) ?_; refine .a ?_; refine .sq ?_; refine .seq ?_; refine .seq ?_; refine .region ?_; refine .a ?_; refine .sq ?_; refine .block ?_; refine .loop (X := Nat) (fun k => k + 1 ≤ (lvL p).length) (fun k => [(1, .r 1 0), (6, .d (vecsD (lvL p))), (9, I ((lvT p.obj p.obj.length (lvL p) k).1)), (10, I ((lvT p.obj p.obj.length (lvL p) k).2)), (11, I (((k + 1 : Nat) : Int)))]) (fun k => [(1, .box [.d (rows p.rws), .d (ints p.bnd), .d (ints p.obj)])]) (fun k => (lvL p).length - k) 0 (by omega) ?_ ?_
   ·exact .sl <| .sl <| .slot rfl (Le.of_eq rfl) <| .slot rfl (Le.of_eq rfl) <| .slot rfl (Le.of_eq (by simp)) <| .mem rfl <| .nil
   ·rintro k hkl
    refine .seq ?_; refine .seq ?_; refine .region ?_; refine .m ?_; refine .m ?_; refine .x (OpSem.lenL rfl rfl es79) ?_; refine .x (.b blss) ?_; refine .sq ?_; refine .cond rfl (fun c64 => ?_) (fun c64 => ?_)
    ·have hk : k + 1 < (lvL p).length := by simp at c64; omega
     have hcn := lvL_at hp hk
     obtain ⟨t1, t2⟩ := lvT_in hp (k := k) (by omega)
     have hd := hcn.d
     have hv := (obj_pd hp hcn.x).2
     have m1 := mul_abs (A := 86400) (B := 720) (a := (pdN p.obj.length p.obj (nth (lvL p) ((k + 1 : Nat) : Int)).1)) (b := (lvT p.obj p.obj.length (lvL p) k).2) hv (by omega)
     have m2 := mul_abs (A := 86400) (B := 720) (a := (lvT p.obj p.obj.length (lvL p) k).1) (b := (nth (lvL p) ((k + 1 : Nat) : Int)).2) t1 (by omega)
     refine .skip ?_; refine .seq ?_; refine .seq ?_; refine .block ?_; refine .seq ?_; refine PC.start [] ?_; refine .x (.f fo39_2) ?_; refine .x (.l vs22) ?_; refine .m ?_; refine .m ?_; refine .x (OpSem.idxL rfl rfl rfl es79 (by omega) (by omega)) ?_; refine .x (OpSem.fieldp rfl rfl fo83_0) ?_; refine .x (OpSem.load1 rfl rfl vs22 rfl) ?_; refine .d0 mixed ?_; refine .x (OpSem.le (s' := I (pdN p.obj.length p.obj (nth (lvL p) ((k + 1 : Nat) : Int)).1)) (OpSem.call0 (S3_Product_does p.obj (nth (lvL p) ((k + 1 : Nat) : Int)).1 hcn.l.symm (obj_pd hp hcn.x).1) rfl rfl rfl rfl (Les.refl _)) (Le.i rfl)) ?_; refine .a ?_; refine .z ?_; refine .m ?_; refine .m ?_; refine .x (OpSem.bin rfl rfl rfl (bmul (by omega) (by omega))) ?_; refine .m ?_; refine .m ?_; refine .m ?_; refine .x (OpSem.idxL rfl rfl rfl es79 (by omega) (by omega)) ?_; refine .x (OpSem.fieldp rfl rfl fo83_1) ?_; refine .x (OpSem.load1 rfl rfl vs3 rfl) ?_; refine .x (OpSem.bin rfl rfl rfl (bmul (by omega) (by omega))) ?_; refine .x (.b bgtr) ?_; refine .sq ?_; refine .cond rfl (fun c85 => ?_) (fun c85 => ?_)
     ·have hT := lvT_t (o := p.obj) (n := p.obj.length) (l := lvL p) (k := k) (by simpa using c85)
      refine PC.start [] ?_; refine .m ?_; refine .m ?_; refine .m ?_; refine .x (OpSem.idxL rfl rfl rfl es79 (by omega) (by omega)) ?_; refine .x (OpSem.fieldp rfl rfl fo83_1) ?_; refine .x (OpSem.load1 rfl rfl vs3 rfl) ?_; refine .x (OpSem.move (.inr rfl) rfl) ?_; refine .d0 mixed ?_; refine .a ?_; refine .nil ?_; refine .block_normal ?_; refine .y ?_; refine .m ?_; refine .x .ad ?_; refine .a ?_; refine .nil ?_; refine .again (k + 1) (by omega) ?_ (by omega); exact .sl <| .sl <| .slot rfl (Le.i (by rw [hT])) <| .slot rfl (Le.i (by rw [hT])) <| .slot rfl (Le.of_eq (by simp)) <| .mem rfl <| .nil
     ·have hT := lvT_f (o := p.obj) (n := p.obj.length) (l := lvL p) (k := k) (by simpa using c85)
      refine .skip ?_; refine .block_normal ?_; refine .y ?_; refine .m ?_; refine .x .ad ?_; refine .a ?_; refine .nil ?_; refine .again (k + 1) (by omega) ?_ (by omega); exact .sl <| .sl <| .slot rfl (Le.i (by rw [hT])) <| .slot rfl (Le.i (by rw [hT])) <| .slot rfl (Le.of_eq (by simp)) <| .mem rfl <| .nil
    ·have hk : k = (lvL p).length - 1 := by simp at c64; omega
     rw [← hk] at e2
     refine .exit ?_; refine .pass_exit ?_; refine .pass_exit ?_; refine .block_same ?_; refine .z ?_; refine .m ?_; refine .m ?_; refine .a ?_; refine .a ?_; refine .a ?_; refine .sq ?_; refine .ret ?_; exact .ret rfl (.tmp rfl <| .tmp rfl <| .tmp rfl <| .nil) rfl (Le.t (.cons (Le.i (by rw [e1])) <| .cons (Le.i (by rw [e2])) <| .cons (Le.i (by rw [e2])) <| .nil))

end Go.Proofs.Ytlidcpmdgceboaa
end
