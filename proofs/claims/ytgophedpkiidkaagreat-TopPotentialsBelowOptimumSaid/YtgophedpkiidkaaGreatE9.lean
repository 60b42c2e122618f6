/- Part 9. -/
import Derived.Test.YtgophedpkiidkaaGreatE8
set_option linter.unusedSimpArgs false
set_option linter.unnecessarySimpa false
set_option linter.unusedVariables false
set_option linter.unusedSectionVars false
section
namespace Go.Proofs.YtgophedpkiidkaaGreat
open Go.Eng
set_option maxRecDepth 10000
set_option maxHeartbeats 4000000
theorem space_Costs_M (t : Tsk) (hV : TskV t) (l : List Nat) (hA : AlW t l) (hl : l.length ≤ 2000) {bw ow : Nat} {sv lv : Value} : DoesM Tryz.prog 24 [ptr bw ow, lv] [(ptr bw ow, .p [.v (.int .u32 (wdF t.ini : Int)), .v (.int .u32 (wdF t.goal : Int)), .v sv]), (sv, .d (mssD t.ops)), (lv, .d (wrdL l))] 1 (fo []) (fun v F' ds' => ∃ bo Lo, v = .map (some bo) ∧ F' = fo [oneO bo (.m (wMp Lo))] ∧ ds' = [] ∧ TopW t l (wF Lo)) := by
 have hol := hV.ops
 have hg24 := wds24 hV hV.goal
 refine DoesM.of_bodyD Tryz.func24 rfl rfl (by simp) Tryz.call24 (.inl fun i h => by simp [fo, noO]) (fun Oc W => ?_)
 refine TrD.seq ?_
 refine TrD.region ?_
 refine TrOps.sem (OpSem.move (.inr rfl) rfl) rfl rfl (by decide) ?_
 refine TrOps.nil ?_
 refine AtD.seq ?_
 refine TrD.seq ?_
 refine TrD.region ?_
 refine TrOps.makeMapO 60 rfl rfl rfl (by decide) (fun bb => ?_)
 refine TrOps.semM (OpSem.alloc 5 rfl zc108 rfl) rfl rfl (by decide) ?_
 refine TrOps.storeb rfl rfl rfl rfl rfl rfl rfl vs108 (by first | decide | simp) ?_
 refine TrOps.nil ?_
 refine AtD.seq ?_
 refine TrD.seq ?_
 refine TrD.region ?_
 refine TrOps.makeMapO 0 rfl rfl rfl (by decide) (fun bo => ?_)
 refine TrOps.sem (OpSem.move (.inr rfl) rfl) rfl rfl (by decide) ?_
 refine TrOps.nil ?_
 refine AtD.seq ?_
 refine TrD.seq ?_
 refine TrD.region ?_
 refine TrOps.addNo 61 ?_
 refine TrOps.addNo 62 ?_
 refine TrOps.addNo 63 ?_
 refine TrOps.addNo 64 ?_
 refine TrOps.addNo 65 ?_
 refine TrOps.callM (hs := [62, 63, 64, 65]) (kd := 5018) (F := fo []) openlist_New_uint32_M rfl rfl rfl (by decide) rfl rfl (fun H => rfl) rfl (by decide) (by decide) (.cons rfl <| .cons rfl <| .cons rfl <| .cons rfl <| .nil) .nil ?_ (by decide)
 rintro _ _ _ ⟨q, Tq, bq, rfl, rfl, rfl⟩
 refine TrOps.sem (OpSem.move (.inr rfl) rfl) rfl rfl (by decide) ?_
 refine TrOps.nil ?_
 refine AtD.seq ?_
 refine TrD.seq ?_
 refine TrD.seq ?_
 refine TrD.region ?_
 refine TrOps.sem (OpSem.move (.inl rfl) rfl) rfl rfl (by decide) ?_
 refine TrOps.sem (OpSem.see (s := .d (wrdL l)) 19 1001 rfl rfl (by simp) (OpSem.lenL rfl rfl es67)) rfl rfl (by decide) ?_
 refine TrOps.sem (OpSem.move (.inl rfl) rfl) rfl rfl (by decide) ?_
 refine TrOps.nil ?_
 refine AtD.seq ?_
 refine TrD.block ?_
 refine TrD.loop (Oc := Oc) (W := W) (X := CoX) (fun x => x.k ≤ l.length ∧ BkI t (l.take x.k) 0 0 (x.k * 40) x.B ∧ CoS t l x.k x.o x.A ∧ QInv x.p x.A x.m) (fun x => [(0, .d (.v (ptr bw ow))), (5, .r 5 0), (6, .d (.v (.map (some bo)))), (7, .d (.v (ptr q 0))), (19, .d (.v lv)), (20, I (l.length)), (21, I (x.k))]) (fun x => [(60, poM (oneO bb (.m (bkM x.B)))), (0, poM (oneO bo (.m (wMp x.o)))), (62, poM (oneO q (.c Tq [plV x.p x.A.length, .map (some bq), .int .i64 (x.tm)]))), (63, poM (plMe 160 x.p (arrV x.A))), (64, poM (enF x.A)), (65, poM (oneO bq (.m x.m))), (61, poM (bkF 120 x.B)), (5, .box [.d (.v (.map (some bb)))]), (999, .any (restK Oc W)), (1000, .fr (frK Oc W)), (1001, .fr (dsS [(ptr bw ow, .p [.v (.int .u32 (wdF t.ini : Int)), .v (.int .u32 (wdF t.goal : Int)), .v sv]), (sv, .d (mssD t.ops)), (lv, .d (wrdL l))]))]) (fun x => l.length - x.k) ⟨0, [], [], none, [], [], 0⟩ ⟨by simp, BkI.nil, CoS.start, ⟨by simp, ⟨by simp [NdE], fun i h => by cases h⟩, ⟨fun _ => rfl, rfl, fun b cap tl e => by cases e⟩, ⟨fun x h => (by cases h), fun k v h => by cases h⟩⟩⟩ ?_ ?_
 ·exact .slot rfl (.refl _) <| .slot rfl (.refl _) <| .slot rfl (.refl _) <| .slot rfl (.refl _) <| .slot rfl (.refl _) <| .slot rfl (.refl _) <| .slot rfl (Le.of_eq (by simp)) <| .mem rfl <| .mem rfl <| .mem rfl <| .mem rfl <| .mem rfl <| .mem rfl <| .mem rfl <| .mem rfl <| .mem rfl <| .mem rfl <| .mem rfl <| .mem rfl <| .nil
 ·rintro ⟨i, Lb, Lo, p, A, m, tm⟩ ds ⟨hil, hB, hS, hQ⟩
  simp only [] at hil hB hS hQ
  refine TrD.seq ?_
  refine TrD.region ?_
  refine TrOps.sem (OpSem.bin rfl rfl rfl blss) rfl rfl (by decide) ?_
  refine TrOps.nil ?_
  refine AtD.seq ?_
  refine TrD.seq ?_
  refine TrD.cond rfl (fun c22 => ?_) (fun c22 => ?_)
  ·have hi : i < l.length := by simpa using c22
   have hs24 := (hA.rc _ (nth_mem (l := l) (n := i) (by omega) (by omega))).lt hV
   have hop : (opL t (nth l i)).length ≤ 40 := Nat.le_trans opT_len hol
   refine TrD.skip ?_
   refine AtD.seq ?_
   refine TrD.seq ?_
   refine TrD.block ?_
   refine TrD.seq ?_
   refine TrD.region ?_
   refine TrOps.sem (OpSem.see (s := .d (wrdL l)) 19 1001 rfl rfl (by simp) (OpSem.idxL rfl rfl rfl es67 (by first | omega | (simp; done) | (simp; omega)) (by first | omega | (simp; done) | (simp; omega)))) rfl rfl (by decide) ?_
   refine TrOps.sem (OpSem.load1 rfl rfl vs72 rfl) rfl rfl (by decide) ?_
   refine TrOps.semM (OpSem.alloc 9 rfl zc72 rfl) rfl rfl (by decide) ?_
   refine TrOps.storeb rfl rfl rfl rfl rfl rfl rfl vs72 (by first | decide | simp) ?_
   refine TrOps.nil ?_
   refine AtD.seq ?_
   refine TrD.seq ?_
   refine TrD.region ?_
   refine TrOps.sem (OpSem.move (.inl rfl) rfl) rfl rfl (by decide) ?_
   refine TrOps.sem (OpSem.loadb1 rfl rfl rfl vs72 rfl) rfl rfl (by decide) ?_
   refine TrOps.ofSt0' (OpSt.putO (h := 0) (l := (wMp Lo)) (n := (((nth l (i : Int)) : Nat) : Int)) (v := .int .i64 1000000000) (F' := oneO bo (.m (wMp (wUp Lo (nth l i) 1000000000)))) (.inl rfl) rfl rfl rfl (fun H => rfl) oneO_s mt70 iu72 bk_put2) rfl rfl rfl ?_
   refine TrOps.nil ?_
   refine AtD.seq ?_
   refine TrD.seq ?_
   refine TrD.seq ?_
   refine TrD.region ?_
   refine TrOps.sem (OpSem.move (.inl rfl) rfl) rfl rfl (by decide) ?_
   refine TrOps.sem (OpSem.loadb1 rfl rfl rfl vs72 rfl) rfl rfl (by decide) ?_
   refine TrOps.callM (hs := []) (kd := 5029) (F := fo []) ((space_Words_Goal_does t (sv := sv) (nth l i) hs24 hg24).toM0 (ds := [(ptr bw ow, .p [.v (.int .u32 (wdF t.ini : Int)), .v (.int .u32 (wdF t.goal : Int)), .v sv])]) rfl (fun i v s h1 h2 => by rcases i with _ | _ | i <;> simp at h1 h2 <;> subst h1 h2 <;> simp) rfl) rfl rfl rfl (by decide) rfl rfl (fun H => rfl) rfl (by decide) (by decide) (.nil) (.cons 1001 rfl (.head _) .nil) ?_ (by decide)
   rintro _ _ _ ⟨rfl, rfl, rfl⟩
   refine TrOps.nil ?_
   refine AtD.seq ?_
   refine TrD.cond rfl (fun c29 => ?_) (fun c29 => ?_)
   ·have hg : goW t (nth l i) := of_decide_eq_true c29
    refine TrD.seq ?_
    refine TrD.region ?_
    refine TrOps.sem (OpSem.move (.inl rfl) rfl) rfl rfl (by decide) ?_
    refine TrOps.sem (OpSem.loadb1 rfl rfl rfl vs72 rfl) rfl rfl (by decide) ?_
    refine TrOps.ofSt0' (OpSt.putO (h := 0) (l := (wMp (wUp Lo (nth l i) 1000000000))) (n := (((nth l (i : Int)) : Nat) : Int)) (v := .int .i64 0) (F' := oneO bo (.m (wMp (wUp (wUp Lo (nth l i) 1000000000) (nth l i) 0)))) (.inl rfl) rfl rfl rfl (fun H => rfl) oneO_s mt70 iu72 bk_put2) rfl rfl rfl ?_
    refine TrOps.nil ?_
    refine AtD.seq ?_
    refine TrD.region ?_
    refine TrOps.sem (OpSem.move (.inl rfl) rfl) rfl rfl (by decide) ?_
    refine TrOps.sem (OpSem.loadb1 rfl rfl rfl vs72 rfl) rfl rfl (by decide) ?_
    refine TrOps.callM (hs := [62, 63, 64, 65]) (kd := 5034) (F := qF q Tq bq (tm) p A m) (openlist_Queue_uint32_Set_M (item := (nth l i)) (key := 0) hQ (by have := hS.n; omega)) rfl rfl rfl (by decide) rfl rfl (fun H => rfl) rfl (by decide) (by decide) (.cons rfl <| .cons rfl <| .cons rfl <| .cons rfl <| .nil) .nil ?_ (by decide)
    rintro _ _ _ ⟨p1, A1, m1, rfl, rfl, rfl, hQ1, hU1⟩
    refine TrOps.nil ?_
    refine AtD.seq ?_
    refine TrD.seq ?_
    refine TrD.region ?_
    refine TrOps.sem (OpSem.move (.inl rfl) rfl) rfl rfl (by decide) ?_
    refine TrOps.sem (OpSem.loadb1 rfl rfl rfl vs72 rfl) rfl rfl (by decide) ?_
    refine TrOps.callM (hs := []) (kd := 5037) (F := fo []) (space_Words_Steps_M (s := (nth l i))) rfl rfl rfl (by decide) rfl rfl (fun H => rfl) rfl (by decide) (by decide) (.nil) .nil ?_ (by decide)
    rintro _ _ _ ⟨x1, x2, rfl, rfl, rfl⟩
    refine TrOps.nil ?_
    refine AtD.seq ?_
    refine TrD.block ?_
    refine TrD.range (Y := List BkE) (n := (opL t (nth l i)).length) (gf := 81) (lb := [x1, x2]) (enc := fun j => stV t (nth l i) (nth (opL t (nth l i)) j)) [(0, .d (.v (ptr bw ow))), (5, .r 5 0), (6, .d (.v (.map (some bo)))), (7, .d (.v (ptr q 0))), (9, .r 9 0), (19, .d (.v lv)), (20, I (l.length)), (21, I ((i : Int)))] (fun k y => [(60, poM (oneO bb (.m (bkM y)))), (0, poM (oneO bo (.m (wMp (wUp (wUp Lo (nth l i) 1000000000) (nth l i) 0))))), (62, poM (oneO q (.c Tq [plV p1 A1.length, .map (some bq), .int .i64 (IntKind.i64.wrap (tm + 1))]))), (63, poM (plMe 160 p1 (arrV A1))), (64, poM (enF A1)), (65, poM (oneO bq (.m m1))), (61, poM (bkF 120 y)), (5, .box [.d (.v (.map (some bb)))]), (9, .box [.d (.v (.int .u32 ((((nth l (i : Int)) : Nat) : Int))))]), (999, .any (restK Oc W)), (1000, .fr (frK Oc W)), (1001, .fr (dsS [(ptr bw ow, .p [.v (.int .u32 (wdF t.ini : Int)), .v (.int .u32 (wdF t.goal : Int)), .v sv]), (sv, .d (mssD t.ops)), (lv, .d (wrdL l))]))]) (fun k y => BkI t (l.take i) (nth l i) k (i * 40 + k) y) Lb (fun k => .g [I (((nth (opL t (nth l i)) k : Nat) : Int)), I ((nth t.ops ((nth (opL t (nth l i)) k : Nat) : Int)).cost), .d (.v (.int .u32 (((toW t (nth l i) (nth (opL t (nth l i)) k)) : Int))))]) rfl (fun O H a w hst => space_Words_Steps_1_seq t hV (nth l i) hs24 (DsIn.rep hst (.cons 5037 rfl (.head _) <| .cons 5037 rfl (.tail _ (.head _)) <| .cons 1001 rfl (.head _) <| .cons 1001 rfl (.tail _ (.head _)) .nil))) Tryz.call81 hB.at0 ?_ rfl rfl rfl (by decide) rfl rfl rfl rfl rfl (fun k y => ⟨rfl, rfl⟩) (fun k O H w => stV_rep) ?_ ?_
    ·exact .slot rfl (.refl _) <| .slot rfl (.refl _) <| .slot rfl (.refl _) <| .slot rfl (.refl _) <| .slot rfl (.refl _) <| .slot rfl (.refl _) <| .slot rfl (.refl _) <| .slot rfl (.refl _) <| .mem rfl <| .mem rfl <| .mem rfl <| .mem rfl <| .mem rfl <| .mem rfl <| .mem rfl <| .mem rfl <| .mem rfl <| .mem rfl <| .mem rfl <| .mem rfl <| .nil
    ·rintro k y lz r0 r1 ds2 Kz hk hp hlz
     have hn := hp.n (toW t (nth l i) (nth (opL t (nth l i)) k))
     refine Tr.region ?_
     refine TrOps.semM (OpSem.alloc 10 rfl zc117 rfl) rfl rfl (by decide) ?_
     refine TrOps.storeb rfl rfl rfl rfl rfl rfl rfl vs117 (by first | decide | simp) ?_
     refine TrOps.nil ?_
     refine At.begR (e1 := [(0, .d (.v (ptr bw ow))), (5, .r 5 0), (6, .d (.v (.map (some bo)))), (7, .d (.v (ptr q 0))), (9, .r 9 0), (19, .d (.v lv)), (20, I (l.length)), (21, I ((i : Int))), (10, .r 10 0)]) (M1 := [(9002, .any (dsK Oc W ds2)), (9003, .fr Kz), (60, poM (oneO bb (.m (bkM y)))), (0, poM (oneO bo (.m (wMp (wUp (wUp Lo (nth l i) 1000000000) (nth l i) 0))))), (62, poM (oneO q (.c Tq [plV p1 A1.length, .map (some bq), .int .i64 (IntKind.i64.wrap (tm + 1))]))), (63, poM (plMe 160 p1 (arrV A1))), (64, poM (enF A1)), (65, poM (oneO bq (.m m1))), (61, poM (bkF 120 y)), (5, .box [.d (.v (.map (some bb)))]), (9, .box [.d (.v (.int .u32 ((((nth l (i : Int)) : Nat) : Int))))]), (999, .any (restK Oc W)), (1000, .fr (frK Oc W)), (1001, .fr (dsS [(ptr bw ow, .p [.v (.int .u32 (wdF t.ini : Int)), .v (.int .u32 (wdF t.goal : Int)), .v sv]), (sv, .d (mssD t.ops)), (lv, .d (wrdL l))])), (10, .box [I (((nth (opL t (nth l i)) k : Nat) : Int)), I ((nth t.ops ((nth (opL t (nth l i)) k : Nat) : Int)).cost), .d (.v (.int .u32 (((toW t (nth l i) (nth (opL t (nth l i)) k)) : Int))))])]) (.slot rfl (.refl _) <| .slot rfl (.refl _) <| .slot rfl (.refl _) <| .slot rfl (.refl _) <| .slot rfl (.refl _) <| .slot rfl (.refl _) <| .slot rfl (.refl _) <| .slot rfl (.refl _) <| .slot rfl (.refl _) <| .mem rfl <| .mem rfl <| .mem rfl <| .mem rfl <| .mem rfl <| .mem rfl <| .mem rfl <| .mem rfl <| .mem rfl <| .mem rfl <| .mem rfl <| .mem rfl <| .mem rfl <| .mem rfl <| .mem rfl <| .mem rfl <| .nil) hlz ?_
     refine Tr.block ?_
     refine PC.start [] ?_
     refine PC.sem (OpSem.loadb1 rfl rfl rfl vs108 rfl) rfl rfl ?_
     refine PC.sem (OpSem.fieldr rfl rfl fo117_2) rfl rfl ?_
     refine PC.sem (OpSem.loadb1 rfl rfl rfl vs72 rfl) rfl rfl ?_
     refine PC.sem (OpSem.loadb1 rfl rfl rfl vs108 rfl) rfl rfl ?_
     refine PC.sem (OpSem.fieldr rfl rfl fo117_2) rfl rfl ?_
     refine PC.sem (OpSem.loadb1 rfl rfl rfl vs72 rfl) rfl rfl ?_
     refine PC.sem (OpSem.lookO (h := 60) (l := bkM y) (n := ((toW t (nth l i) (nth (opL t (nth l i)) k)) : Int)) (v := plV (bkP y (toW t (nth l i) (nth (opL t (nth l i)) k))) (((bkA y (toW t (nth l i) (nth (opL t (nth l i)) k))).map bkRow).length)) rfl rfl rfl rfl oneO_s mt108 iu72 zw118 bk_look2) rfl rfl ?_
     refine PC.sem (OpSem.loadb1 rfl rfl rfl vs72 rfl) rfl rfl ?_
     refine PC.sem (OpSem.fieldr rfl rfl fo117_1) rfl rfl ?_
     refine PC.sem (OpSem.loadb1 rfl rfl rfl vs3 rfl) rfl rfl ?_
     refine PC.sem (OpSem.build rfl rfl pl120 zc120 rfl rfl) rfl rfl ?_
     refine PC.sem (OpSem.buildSlice rfl rfl es118 ze118 rfl rfl (by decide) (by decide) rfl rfl) rfl rfl ?_
     refine PC.doneS [0, 1, 2] [[], [2], [1], [1, 2], [0], [0, 2], [0, 1], [0, 1, 2]] mixed (by kernel_rfl) (by kernel_rfl) (by kernel_rfl) (by kernel_rfl) (by kernel_rfl) (by decide) rfl (by kernel_rfl) ⟨?_, ?_, ?_, ?_, ?_, ?_, ?_, ?_, trivial⟩
     ·refine ⟨[], _, by kernel_rfl, by repeat' (first | exact .nil | (apply DropRs.hit; rfl) | (apply DropRs.miss; rfl)), ?_⟩
      refine TrOps.splitO (F1 := bkF 120 (bkX y (toW t (nth l i) (nth (opL t (nth l i)) k)))) (G := plMe 120 (bkP y (toW t (nth l i) (nth (opL t (nth l i)) k))) ((bkA y (toW t (nth l i) (nth (opL t (nth l i)) k))).map bkRow).flatten) 61 66 rfl (by decide) (bk_split hp.ok) (bk_own hp.ok) ?_
      refine TrOps.appendO (h := 66) (p := (bkP y (toW t (nth l i) (nth (opL t (nth l i)) k)))) (rows := ((bkA y (toW t (nth l i) (nth (opL t (nth l i)) k))).map bkRow)) (r := [.int .u32 ((((nth l i) : Nat) : Int)), .int .i64 ((nth t.ops ((nth (opL t (nth l i)) k : Nat) : Int)).cost)]) rfl rfl rfl (by decide) rfl rfl rfl es118 el118 zc120 rfl by120 bk_rows rfl (by simp [Value.oneCell']) (by simp [maxLen]; omega) (by simp; omega) (bkP_ok2 hp.ok) (fun b2 cap2 tl2 hp2 => ?_)
      refine TrOps.poEq 66 rfl (bkE_c (T := 120) (L := y) (to := (toW t (nth l i) (nth (opL t (nth l i)) k))) (b := b2) (cap := cap2) (tl := tl2) (s := (nth l i)) (c := (nth t.ops ((nth (opL t (nth l i)) k : Nat) : Int)).cost)) ?_
      refine TrOps.joinO 61 66 rfl rfl (by decide) (fun hap => ?_)
      obtain ⟨hok2, hF2⟩ := bk_join hp.ok (e := (bkE y (toW t (nth l i) (nth (opL t (nth l i)) k)) b2 cap2 tl2 (nth l i) (nth t.ops ((nth (opL t (nth l i)) k : Nat) : Int)).cost)) (bkE_p hp2) hap
      refine TrOps.poEq 61 rfl hF2 ?_
      refine TrSet.start ?_
      refine TrSet.zero ?_
      refine TrOps.ofSt0' (OpSt.putO (h := 60) (l := (bkM y)) (n := ((toW t (nth l i) (nth (opL t (nth l i)) k)) : Int)) (v := slc b2 (((bkA y (toW t (nth l i) (nth (opL t (nth l i)) k))).map bkRow).length + 1) cap2) (F' := oneO bb (.m (bkM (bkUp y (bkE y (toW t (nth l i) (nth (opL t (nth l i)) k)) b2 cap2 tl2 (nth l i) (nth t.ops ((nth (opL t (nth l i)) k : Nat) : Int)).cost))))) (.inl rfl) rfl rfl rfl (fun H => rfl) oneO_s mt108 iu72 bkE_put) rfl rfl rfl ?_
      refine TrOps.nil ?_
      refine At.block_normal ?_
      refine At.endR (bkUp y (bkE y (toW t (nth l i) (nth (opL t (nth l i)) k)) b2 cap2 tl2 (nth l i) (nth t.ops ((nth (opL t (nth l i)) k : Nat) : Int)).cost)) (hp.add hok2 rfl rfl) ?_
      exact .slot rfl (.refl _) <| .slot rfl (.refl _) <| .slot rfl (.refl _) <| .slot rfl (.refl _) <| .slot rfl (.refl _) <| .slot rfl (.refl _) <| .slot rfl (.refl _) <| .slot rfl (.refl _) <| .mem rfl <| .mem rfl <| .mem rfl <| .mem rfl <| .mem rfl <| .mem rfl <| .mem rfl <| .mem rfl <| .mem rfl <| .mem rfl <| .mem rfl <| .mem rfl <| .mem rfl <| .mem rfl <| .mem rfl <| .nil
     ·refine ⟨[41], _, by kernel_rfl, by repeat' (first | exact .nil | (apply DropRs.hit; rfl) | (apply DropRs.miss; rfl)), ?_⟩
      refine TrOps.splitO (F1 := bkF 120 (bkX y (toW t (nth l i) (nth (opL t (nth l i)) k)))) (G := plMe 120 (bkP y (toW t (nth l i) (nth (opL t (nth l i)) k))) ((bkA y (toW t (nth l i) (nth (opL t (nth l i)) k))).map bkRow).flatten) 61 66 rfl (by decide) (bk_split hp.ok) (bk_own hp.ok) ?_
      refine TrOps.appendO (h := 66) (p := (bkP y (toW t (nth l i) (nth (opL t (nth l i)) k)))) (rows := ((bkA y (toW t (nth l i) (nth (opL t (nth l i)) k))).map bkRow)) (r := [.int .u32 ((((nth l i) : Nat) : Int)), .int .i64 ((nth t.ops ((nth (opL t (nth l i)) k : Nat) : Int)).cost)]) rfl rfl rfl (by decide) rfl rfl rfl es118 el118 zc120 rfl by120 bk_rows rfl (by simp [Value.oneCell']) (by simp [maxLen]; omega) (by simp; omega) (bkP_ok2 hp.ok) (fun b2 cap2 tl2 hp2 => ?_)
      refine TrOps.poEq 66 rfl (bkE_c (T := 120) (L := y) (to := (toW t (nth l i) (nth (opL t (nth l i)) k))) (b := b2) (cap := cap2) (tl := tl2) (s := (nth l i)) (c := (nth t.ops ((nth (opL t (nth l i)) k : Nat) : Int)).cost)) ?_
      refine TrOps.joinO 61 66 rfl rfl (by decide) (fun hap => ?_)
      obtain ⟨hok2, hF2⟩ := bk_join hp.ok (e := (bkE y (toW t (nth l i) (nth (opL t (nth l i)) k)) b2 cap2 tl2 (nth l i) (nth t.ops ((nth (opL t (nth l i)) k : Nat) : Int)).cost)) (bkE_p hp2) hap
      refine TrOps.poEq 61 rfl hF2 ?_
      refine TrSet.start ?_
      refine TrSet.succ ⟨?_, trivial⟩
      ·refine .inr (TrI.sem rfl (OpSem.loadb1 rfl rfl rfl vs72 rfl) rfl rfl (by decide) rfl ?_)
       refine TrSet.zero ?_
       refine TrOps.ofSt0' (OpSt.putO (h := 60) (l := (bkM y)) (n := ((toW t (nth l i) (nth (opL t (nth l i)) k)) : Int)) (v := slc b2 (((bkA y (toW t (nth l i) (nth (opL t (nth l i)) k))).map bkRow).length + 1) cap2) (F' := oneO bb (.m (bkM (bkUp y (bkE y (toW t (nth l i) (nth (opL t (nth l i)) k)) b2 cap2 tl2 (nth l i) (nth t.ops ((nth (opL t (nth l i)) k : Nat) : Int)).cost))))) (.inl rfl) rfl rfl rfl (fun H => rfl) oneO_s mt108 iu72 bkE_put) rfl rfl rfl ?_
       refine TrOps.nil ?_
       refine At.block_normal ?_
       refine At.endR (bkUp y (bkE y (toW t (nth l i) (nth (opL t (nth l i)) k)) b2 cap2 tl2 (nth l i) (nth t.ops ((nth (opL t (nth l i)) k : Nat) : Int)).cost)) (hp.add hok2 rfl rfl) ?_
       exact .slot rfl (.refl _) <| .slot rfl (.refl _) <| .slot rfl (.refl _) <| .slot rfl (.refl _) <| .slot rfl (.refl _) <| .slot rfl (.refl _) <| .slot rfl (.refl _) <| .slot rfl (.refl _) <| .mem rfl <| .mem rfl <| .mem rfl <| .mem rfl <| .mem rfl <| .mem rfl <| .mem rfl <| .mem rfl <| .mem rfl <| .mem rfl <| .mem rfl <| .mem rfl <| .mem rfl <| .mem rfl <| .mem rfl <| .nil
     ·refine ⟨[40], _, by kernel_rfl, by repeat' (first | exact .nil | (apply DropRs.hit; rfl) | (apply DropRs.miss; rfl)), ?_⟩
      refine TrOps.splitO (F1 := bkF 120 (bkX y (toW t (nth l i) (nth (opL t (nth l i)) k)))) (G := plMe 120 (bkP y (toW t (nth l i) (nth (opL t (nth l i)) k))) ((bkA y (toW t (nth l i) (nth (opL t (nth l i)) k))).map bkRow).flatten) 61 66 rfl (by decide) (bk_split hp.ok) (bk_own hp.ok) ?_
      refine TrOps.appendO (h := 66) (p := (bkP y (toW t (nth l i) (nth (opL t (nth l i)) k)))) (rows := ((bkA y (toW t (nth l i) (nth (opL t (nth l i)) k))).map bkRow)) (r := [.int .u32 ((((nth l i) : Nat) : Int)), .int .i64 ((nth t.ops ((nth (opL t (nth l i)) k : Nat) : Int)).cost)]) rfl rfl rfl (by decide) rfl rfl rfl es118 el118 zc120 rfl by120 bk_rows rfl (by simp [Value.oneCell']) (by simp [maxLen]; omega) (by simp; omega) (bkP_ok2 hp.ok) (fun b2 cap2 tl2 hp2 => ?_)
      refine TrOps.poEq 66 rfl (bkE_c (T := 120) (L := y) (to := (toW t (nth l i) (nth (opL t (nth l i)) k))) (b := b2) (cap := cap2) (tl := tl2) (s := (nth l i)) (c := (nth t.ops ((nth (opL t (nth l i)) k : Nat) : Int)).cost)) ?_
      refine TrOps.joinO 61 66 rfl rfl (by decide) (fun hap => ?_)
      obtain ⟨hok2, hF2⟩ := bk_join hp.ok (e := (bkE y (toW t (nth l i) (nth (opL t (nth l i)) k)) b2 cap2 tl2 (nth l i) (nth t.ops ((nth (opL t (nth l i)) k : Nat) : Int)).cost)) (bkE_p hp2) hap
      refine TrOps.poEq 61 rfl hF2 ?_
      refine TrSet.start ?_
      refine TrSet.succ ⟨?_, trivial⟩
      ·refine .inr (TrI.sem rfl (OpSem.fieldr rfl rfl fo117_2) rfl rfl (by decide) rfl ?_)
       refine TrSet.zero ?_
       refine TrOps.ofSt0' (OpSt.putO (h := 60) (l := (bkM y)) (n := ((toW t (nth l i) (nth (opL t (nth l i)) k)) : Int)) (v := slc b2 (((bkA y (toW t (nth l i) (nth (opL t (nth l i)) k))).map bkRow).length + 1) cap2) (F' := oneO bb (.m (bkM (bkUp y (bkE y (toW t (nth l i) (nth (opL t (nth l i)) k)) b2 cap2 tl2 (nth l i) (nth t.ops ((nth (opL t (nth l i)) k : Nat) : Int)).cost))))) (.inl rfl) rfl rfl rfl (fun H => rfl) oneO_s mt108 iu72 bkE_put) rfl rfl rfl ?_
       refine TrOps.nil ?_
       refine At.block_normal ?_
       refine At.endR (bkUp y (bkE y (toW t (nth l i) (nth (opL t (nth l i)) k)) b2 cap2 tl2 (nth l i) (nth t.ops ((nth (opL t (nth l i)) k : Nat) : Int)).cost)) (hp.add hok2 rfl rfl) ?_
       exact .slot rfl (.refl _) <| .slot rfl (.refl _) <| .slot rfl (.refl _) <| .slot rfl (.refl _) <| .slot rfl (.refl _) <| .slot rfl (.refl _) <| .slot rfl (.refl _) <| .slot rfl (.refl _) <| .mem rfl <| .mem rfl <| .mem rfl <| .mem rfl <| .mem rfl <| .mem rfl <| .mem rfl <| .mem rfl <| .mem rfl <| .mem rfl <| .mem rfl <| .mem rfl <| .mem rfl <| .mem rfl <| .mem rfl <| .nil
     ·refine ⟨[40, 41], _, by kernel_rfl, by repeat' (first | exact .nil | (apply DropRs.hit; rfl) | (apply DropRs.miss; rfl)), ?_⟩
      refine TrOps.splitO (F1 := bkF 120 (bkX y (toW t (nth l i) (nth (opL t (nth l i)) k)))) (G := plMe 120 (bkP y (toW t (nth l i) (nth (opL t (nth l i)) k))) ((bkA y (toW t (nth l i) (nth (opL t (nth l i)) k))).map bkRow).flatten) 61 66 rfl (by decide) (bk_split hp.ok) (bk_own hp.ok) ?_
      refine TrOps.appendO (h := 66) (p := (bkP y (toW t (nth l i) (nth (opL t (nth l i)) k)))) (rows := ((bkA y (toW t (nth l i) (nth (opL t (nth l i)) k))).map bkRow)) (r := [.int .u32 ((((nth l i) : Nat) : Int)), .int .i64 ((nth t.ops ((nth (opL t (nth l i)) k : Nat) : Int)).cost)]) rfl rfl rfl (by decide) rfl rfl rfl es118 el118 zc120 rfl by120 bk_rows rfl (by simp [Value.oneCell']) (by simp [maxLen]; omega) (by simp; omega) (bkP_ok2 hp.ok) (fun b2 cap2 tl2 hp2 => ?_)
      refine TrOps.poEq 66 rfl (bkE_c (T := 120) (L := y) (to := (toW t (nth l i) (nth (opL t (nth l i)) k))) (b := b2) (cap := cap2) (tl := tl2) (s := (nth l i)) (c := (nth t.ops ((nth (opL t (nth l i)) k : Nat) : Int)).cost)) ?_
      refine TrOps.joinO 61 66 rfl rfl (by decide) (fun hap => ?_)
      obtain ⟨hok2, hF2⟩ := bk_join hp.ok (e := (bkE y (toW t (nth l i) (nth (opL t (nth l i)) k)) b2 cap2 tl2 (nth l i) (nth t.ops ((nth (opL t (nth l i)) k : Nat) : Int)).cost)) (bkE_p hp2) hap
      refine TrOps.poEq 61 rfl hF2 ?_
      refine TrSet.start ?_
      refine TrSet.succ ⟨?_, ?_, trivial⟩
      ·refine .inr (TrI.sem rfl (OpSem.fieldr rfl rfl fo117_2) rfl rfl (by decide) rfl ?_)
       refine TrSet.succ ⟨?_, trivial⟩
       ·refine .inr (TrI.sem rfl (OpSem.loadb1 rfl rfl rfl vs72 rfl) rfl rfl (by decide) rfl ?_)
        refine TrSet.zero ?_
        refine TrOps.ofSt0' (OpSt.putO (h := 60) (l := (bkM y)) (n := ((toW t (nth l i) (nth (opL t (nth l i)) k)) : Int)) (v := slc b2 (((bkA y (toW t (nth l i) (nth (opL t (nth l i)) k))).map bkRow).length + 1) cap2) (F' := oneO bb (.m (bkM (bkUp y (bkE y (toW t (nth l i) (nth (opL t (nth l i)) k)) b2 cap2 tl2 (nth l i) (nth t.ops ((nth (opL t (nth l i)) k : Nat) : Int)).cost))))) (.inl rfl) rfl rfl rfl (fun H => rfl) oneO_s mt108 iu72 bkE_put) rfl rfl rfl ?_
        refine TrOps.nil ?_
        refine At.block_normal ?_
        refine At.endR (bkUp y (bkE y (toW t (nth l i) (nth (opL t (nth l i)) k)) b2 cap2 tl2 (nth l i) (nth t.ops ((nth (opL t (nth l i)) k : Nat) : Int)).cost)) (hp.add hok2 rfl rfl) ?_
        exact .slot rfl (.refl _) <| .slot rfl (.refl _) <| .slot rfl (.refl _) <| .slot rfl (.refl _) <| .slot rfl (.refl _) <| .slot rfl (.refl _) <| .slot rfl (.refl _) <| .slot rfl (.refl _) <| .mem rfl <| .mem rfl <| .mem rfl <| .mem rfl <| .mem rfl <| .mem rfl <| .mem rfl <| .mem rfl <| .mem rfl <| .mem rfl <| .mem rfl <| .mem rfl <| .mem rfl <| .mem rfl <| .mem rfl <| .nil
      ·exact .inl (by kernel_rfl)
     ·refine ⟨[39], _, by kernel_rfl, by repeat' (first | exact .nil | (apply DropRs.hit; rfl) | (apply DropRs.miss; rfl)), ?_⟩
      refine TrOps.splitO (F1 := bkF 120 (bkX y (toW t (nth l i) (nth (opL t (nth l i)) k)))) (G := plMe 120 (bkP y (toW t (nth l i) (nth (opL t (nth l i)) k))) ((bkA y (toW t (nth l i) (nth (opL t (nth l i)) k))).map bkRow).flatten) 61 66 rfl (by decide) (bk_split hp.ok) (bk_own hp.ok) ?_
      refine TrOps.appendO (h := 66) (p := (bkP y (toW t (nth l i) (nth (opL t (nth l i)) k)))) (rows := ((bkA y (toW t (nth l i) (nth (opL t (nth l i)) k))).map bkRow)) (r := [.int .u32 ((((nth l i) : Nat) : Int)), .int .i64 ((nth t.ops ((nth (opL t (nth l i)) k : Nat) : Int)).cost)]) rfl rfl rfl (by decide) rfl rfl rfl es118 el118 zc120 rfl by120 bk_rows rfl (by simp [Value.oneCell']) (by simp [maxLen]; omega) (by simp; omega) (bkP_ok2 hp.ok) (fun b2 cap2 tl2 hp2 => ?_)
      refine TrOps.poEq 66 rfl (bkE_c (T := 120) (L := y) (to := (toW t (nth l i) (nth (opL t (nth l i)) k))) (b := b2) (cap := cap2) (tl := tl2) (s := (nth l i)) (c := (nth t.ops ((nth (opL t (nth l i)) k : Nat) : Int)).cost)) ?_
      refine TrOps.joinO 61 66 rfl rfl (by decide) (fun hap => ?_)
      obtain ⟨hok2, hF2⟩ := bk_join hp.ok (e := (bkE y (toW t (nth l i) (nth (opL t (nth l i)) k)) b2 cap2 tl2 (nth l i) (nth t.ops ((nth (opL t (nth l i)) k : Nat) : Int)).cost)) (bkE_p hp2) hap
      refine TrOps.poEq 61 rfl hF2 ?_
      refine TrSet.start ?_
      refine TrSet.succ ⟨?_, trivial⟩
      ·refine .inr (TrI.sem rfl (OpSem.loadb1 rfl rfl rfl vs108 rfl) rfl rfl (by decide) rfl ?_)
       refine TrSet.zero ?_
       refine TrOps.ofSt0' (OpSt.putO (h := 60) (l := (bkM y)) (n := ((toW t (nth l i) (nth (opL t (nth l i)) k)) : Int)) (v := slc b2 (((bkA y (toW t (nth l i) (nth (opL t (nth l i)) k))).map bkRow).length + 1) cap2) (F' := oneO bb (.m (bkM (bkUp y (bkE y (toW t (nth l i) (nth (opL t (nth l i)) k)) b2 cap2 tl2 (nth l i) (nth t.ops ((nth (opL t (nth l i)) k : Nat) : Int)).cost))))) (.inl rfl) rfl rfl rfl (fun H => rfl) oneO_s mt108 iu72 bkE_put) rfl rfl rfl ?_
       refine TrOps.nil ?_
       refine At.block_normal ?_
       refine At.endR (bkUp y (bkE y (toW t (nth l i) (nth (opL t (nth l i)) k)) b2 cap2 tl2 (nth l i) (nth t.ops ((nth (opL t (nth l i)) k : Nat) : Int)).cost)) (hp.add hok2 rfl rfl) ?_
       exact .slot rfl (.refl _) <| .slot rfl (.refl _) <| .slot rfl (.refl _) <| .slot rfl (.refl _) <| .slot rfl (.refl _) <| .slot rfl (.refl _) <| .slot rfl (.refl _) <| .slot rfl (.refl _) <| .mem rfl <| .mem rfl <| .mem rfl <| .mem rfl <| .mem rfl <| .mem rfl <| .mem rfl <| .mem rfl <| .mem rfl <| .mem rfl <| .mem rfl <| .mem rfl <| .mem rfl <| .mem rfl <| .mem rfl <| .nil
     ·refine ⟨[39, 41], _, by kernel_rfl, by repeat' (first | exact .nil | (apply DropRs.hit; rfl) | (apply DropRs.miss; rfl)), ?_⟩
      refine TrOps.splitO (F1 := bkF 120 (bkX y (toW t (nth l i) (nth (opL t (nth l i)) k)))) (G := plMe 120 (bkP y (toW t (nth l i) (nth (opL t (nth l i)) k))) ((bkA y (toW t (nth l i) (nth (opL t (nth l i)) k))).map bkRow).flatten) 61 66 rfl (by decide) (bk_split hp.ok) (bk_own hp.ok) ?_
      refine TrOps.appendO (h := 66) (p := (bkP y (toW t (nth l i) (nth (opL t (nth l i)) k)))) (rows := ((bkA y (toW t (nth l i) (nth (opL t (nth l i)) k))).map bkRow)) (r := [.int .u32 ((((nth l i) : Nat) : Int)), .int .i64 ((nth t.ops ((nth (opL t (nth l i)) k : Nat) : Int)).cost)]) rfl rfl rfl (by decide) rfl rfl rfl es118 el118 zc120 rfl by120 bk_rows rfl (by simp [Value.oneCell']) (by simp [maxLen]; omega) (by simp; omega) (bkP_ok2 hp.ok) (fun b2 cap2 tl2 hp2 => ?_)
      refine TrOps.poEq 66 rfl (bkE_c (T := 120) (L := y) (to := (toW t (nth l i) (nth (opL t (nth l i)) k))) (b := b2) (cap := cap2) (tl := tl2) (s := (nth l i)) (c := (nth t.ops ((nth (opL t (nth l i)) k : Nat) : Int)).cost)) ?_
      refine TrOps.joinO 61 66 rfl rfl (by decide) (fun hap => ?_)
      obtain ⟨hok2, hF2⟩ := bk_join hp.ok (e := (bkE y (toW t (nth l i) (nth (opL t (nth l i)) k)) b2 cap2 tl2 (nth l i) (nth t.ops ((nth (opL t (nth l i)) k : Nat) : Int)).cost)) (bkE_p hp2) hap
      refine TrOps.poEq 61 rfl hF2 ?_
      refine TrSet.start ?_
      refine TrSet.succ ⟨?_, ?_, trivial⟩
      ·refine .inr (TrI.sem rfl (OpSem.loadb1 rfl rfl rfl vs108 rfl) rfl rfl (by decide) rfl ?_)
       refine TrSet.succ ⟨?_, trivial⟩
       ·refine .inr (TrI.sem rfl (OpSem.loadb1 rfl rfl rfl vs72 rfl) rfl rfl (by decide) rfl ?_)
        refine TrSet.zero ?_
        refine TrOps.ofSt0' (OpSt.putO (h := 60) (l := (bkM y)) (n := ((toW t (nth l i) (nth (opL t (nth l i)) k)) : Int)) (v := slc b2 (((bkA y (toW t (nth l i) (nth (opL t (nth l i)) k))).map bkRow).length + 1) cap2) (F' := oneO bb (.m (bkM (bkUp y (bkE y (toW t (nth l i) (nth (opL t (nth l i)) k)) b2 cap2 tl2 (nth l i) (nth t.ops ((nth (opL t (nth l i)) k : Nat) : Int)).cost))))) (.inl rfl) rfl rfl rfl (fun H => rfl) oneO_s mt108 iu72 bkE_put) rfl rfl rfl ?_
        refine TrOps.nil ?_
        refine At.block_normal ?_
        refine At.endR (bkUp y (bkE y (toW t (nth l i) (nth (opL t (nth l i)) k)) b2 cap2 tl2 (nth l i) (nth t.ops ((nth (opL t (nth l i)) k : Nat) : Int)).cost)) (hp.add hok2 rfl rfl) ?_
        exact .slot rfl (.refl _) <| .slot rfl (.refl _) <| .slot rfl (.refl _) <| .slot rfl (.refl _) <| .slot rfl (.refl _) <| .slot rfl (.refl _) <| .slot rfl (.refl _) <| .slot rfl (.refl _) <| .mem rfl <| .mem rfl <| .mem rfl <| .mem rfl <| .mem rfl <| .mem rfl <| .mem rfl <| .mem rfl <| .mem rfl <| .mem rfl <| .mem rfl <| .mem rfl <| .mem rfl <| .mem rfl <| .mem rfl <| .nil
      ·refine .inr (TrI.sem rfl (OpSem.loadb1 rfl rfl rfl vs72 rfl) rfl rfl (by decide) rfl ?_)
       refine TrSet.succ ⟨?_, trivial⟩
       ·refine .inr (TrI.sem rfl (OpSem.loadb1 rfl rfl rfl vs108 rfl) rfl rfl (by decide) rfl ?_)
        refine TrSet.zero ?_
        refine TrOps.ofSt0' (OpSt.putO (h := 60) (l := (bkM y)) (n := ((toW t (nth l i) (nth (opL t (nth l i)) k)) : Int)) (v := slc b2 (((bkA y (toW t (nth l i) (nth (opL t (nth l i)) k))).map bkRow).length + 1) cap2) (F' := oneO bb (.m (bkM (bkUp y (bkE y (toW t (nth l i) (nth (opL t (nth l i)) k)) b2 cap2 tl2 (nth l i) (nth t.ops ((nth (opL t (nth l i)) k : Nat) : Int)).cost))))) (.inl rfl) rfl rfl rfl (fun H => rfl) oneO_s mt108 iu72 bkE_put) rfl rfl rfl ?_
        refine TrOps.nil ?_
        refine At.block_normal ?_
        refine At.endR (bkUp y (bkE y (toW t (nth l i) (nth (opL t (nth l i)) k)) b2 cap2 tl2 (nth l i) (nth t.ops ((nth (opL t (nth l i)) k : Nat) : Int)).cost)) (hp.add hok2 rfl rfl) ?_
        exact .slot rfl (.refl _) <| .slot rfl (.refl _) <| .slot rfl (.refl _) <| .slot rfl (.refl _) <| .slot rfl (.refl _) <| .slot rfl (.refl _) <| .slot rfl (.refl _) <| .slot rfl (.refl _) <| .mem rfl <| .mem rfl <| .mem rfl <| .mem rfl <| .mem rfl <| .mem rfl <| .mem rfl <| .mem rfl <| .mem rfl <| .mem rfl <| .mem rfl <| .mem rfl <| .mem rfl <| .mem rfl <| .mem rfl <| .nil
     ·refine ⟨[39, 40], _, by kernel_rfl, by repeat' (first | exact .nil | (apply DropRs.hit; rfl) | (apply DropRs.miss; rfl)), ?_⟩
      refine TrOps.splitO (F1 := bkF 120 (bkX y (toW t (nth l i) (nth (opL t (nth l i)) k)))) (G := plMe 120 (bkP y (toW t (nth l i) (nth (opL t (nth l i)) k))) ((bkA y (toW t (nth l i) (nth (opL t (nth l i)) k))).map bkRow).flatten) 61 66 rfl (by decide) (bk_split hp.ok) (bk_own hp.ok) ?_
      refine TrOps.appendO (h := 66) (p := (bkP y (toW t (nth l i) (nth (opL t (nth l i)) k)))) (rows := ((bkA y (toW t (nth l i) (nth (opL t (nth l i)) k))).map bkRow)) (r := [.int .u32 ((((nth l i) : Nat) : Int)), .int .i64 ((nth t.ops ((nth (opL t (nth l i)) k : Nat) : Int)).cost)]) rfl rfl rfl (by decide) rfl rfl rfl es118 el118 zc120 rfl by120 bk_rows rfl (by simp [Value.oneCell']) (by simp [maxLen]; omega) (by simp; omega) (bkP_ok2 hp.ok) (fun b2 cap2 tl2 hp2 => ?_)
      refine TrOps.poEq 66 rfl (bkE_c (T := 120) (L := y) (to := (toW t (nth l i) (nth (opL t (nth l i)) k))) (b := b2) (cap := cap2) (tl := tl2) (s := (nth l i)) (c := (nth t.ops ((nth (opL t (nth l i)) k : Nat) : Int)).cost)) ?_
      refine TrOps.joinO 61 66 rfl rfl (by decide) (fun hap => ?_)
      obtain ⟨hok2, hF2⟩ := bk_join hp.ok (e := (bkE y (toW t (nth l i) (nth (opL t (nth l i)) k)) b2 cap2 tl2 (nth l i) (nth t.ops ((nth (opL t (nth l i)) k : Nat) : Int)).cost)) (bkE_p hp2) hap
      refine TrOps.poEq 61 rfl hF2 ?_
      refine TrSet.start ?_
      refine TrSet.succ ⟨?_, ?_, trivial⟩
      ·refine .inr (TrI.sem rfl (OpSem.loadb1 rfl rfl rfl vs108 rfl) rfl rfl (by decide) rfl ?_)
       refine TrSet.succ ⟨?_, trivial⟩
       ·refine .inr (TrI.sem rfl (OpSem.fieldr rfl rfl fo117_2) rfl rfl (by decide) rfl ?_)
        refine TrSet.zero ?_
        refine TrOps.ofSt0' (OpSt.putO (h := 60) (l := (bkM y)) (n := ((toW t (nth l i) (nth (opL t (nth l i)) k)) : Int)) (v := slc b2 (((bkA y (toW t (nth l i) (nth (opL t (nth l i)) k))).map bkRow).length + 1) cap2) (F' := oneO bb (.m (bkM (bkUp y (bkE y (toW t (nth l i) (nth (opL t (nth l i)) k)) b2 cap2 tl2 (nth l i) (nth t.ops ((nth (opL t (nth l i)) k : Nat) : Int)).cost))))) (.inl rfl) rfl rfl rfl (fun H => rfl) oneO_s mt108 iu72 bkE_put) rfl rfl rfl ?_
        refine TrOps.nil ?_
        refine At.block_normal ?_
        refine At.endR (bkUp y (bkE y (toW t (nth l i) (nth (opL t (nth l i)) k)) b2 cap2 tl2 (nth l i) (nth t.ops ((nth (opL t (nth l i)) k : Nat) : Int)).cost)) (hp.add hok2 rfl rfl) ?_
        exact .slot rfl (.refl _) <| .slot rfl (.refl _) <| .slot rfl (.refl _) <| .slot rfl (.refl _) <| .slot rfl (.refl _) <| .slot rfl (.refl _) <| .slot rfl (.refl _) <| .slot rfl (.refl _) <| .mem rfl <| .mem rfl <| .mem rfl <| .mem rfl <| .mem rfl <| .mem rfl <| .mem rfl <| .mem rfl <| .mem rfl <| .mem rfl <| .mem rfl <| .mem rfl <| .mem rfl <| .mem rfl <| .mem rfl <| .nil
      ·refine .inr (TrI.sem rfl (OpSem.fieldr rfl rfl fo117_2) rfl rfl (by decide) rfl ?_)
       refine TrSet.succ ⟨?_, trivial⟩
       ·refine .inr (TrI.sem rfl (OpSem.loadb1 rfl rfl rfl vs108 rfl) rfl rfl (by decide) rfl ?_)
        refine TrSet.zero ?_
        refine TrOps.ofSt0' (OpSt.putO (h := 60) (l := (bkM y)) (n := ((toW t (nth l i) (nth (opL t (nth l i)) k)) : Int)) (v := slc b2 (((bkA y (toW t (nth l i) (nth (opL t (nth l i)) k))).map bkRow).length + 1) cap2) (F' := oneO bb (.m (bkM (bkUp y (bkE y (toW t (nth l i) (nth (opL t (nth l i)) k)) b2 cap2 tl2 (nth l i) (nth t.ops ((nth (opL t (nth l i)) k : Nat) : Int)).cost))))) (.inl rfl) rfl rfl rfl (fun H => rfl) oneO_s mt108 iu72 bkE_put) rfl rfl rfl ?_
        refine TrOps.nil ?_
        refine At.block_normal ?_
        refine At.endR (bkUp y (bkE y (toW t (nth l i) (nth (opL t (nth l i)) k)) b2 cap2 tl2 (nth l i) (nth t.ops ((nth (opL t (nth l i)) k : Nat) : Int)).cost)) (hp.add hok2 rfl rfl) ?_
        exact .slot rfl (.refl _) <| .slot rfl (.refl _) <| .slot rfl (.refl _) <| .slot rfl (.refl _) <| .slot rfl (.refl _) <| .slot rfl (.refl _) <| .slot rfl (.refl _) <| .slot rfl (.refl _) <| .mem rfl <| .mem rfl <| .mem rfl <| .mem rfl <| .mem rfl <| .mem rfl <| .mem rfl <| .mem rfl <| .mem rfl <| .mem rfl <| .mem rfl <| .mem rfl <| .mem rfl <| .mem rfl <| .mem rfl <| .nil
     ·refine ⟨[39, 40, 41], _, by kernel_rfl, by repeat' (first | exact .nil | (apply DropRs.hit; rfl) | (apply DropRs.miss; rfl)), ?_⟩
      refine TrOps.splitO (F1 := bkF 120 (bkX y (toW t (nth l i) (nth (opL t (nth l i)) k)))) (G := plMe 120 (bkP y (toW t (nth l i) (nth (opL t (nth l i)) k))) ((bkA y (toW t (nth l i) (nth (opL t (nth l i)) k))).map bkRow).flatten) 61 66 rfl (by decide) (bk_split hp.ok) (bk_own hp.ok) ?_
      refine TrOps.appendO (h := 66) (p := (bkP y (toW t (nth l i) (nth (opL t (nth l i)) k)))) (rows := ((bkA y (toW t (nth l i) (nth (opL t (nth l i)) k))).map bkRow)) (r := [.int .u32 ((((nth l i) : Nat) : Int)), .int .i64 ((nth t.ops ((nth (opL t (nth l i)) k : Nat) : Int)).cost)]) rfl rfl rfl (by decide) rfl rfl rfl es118 el118 zc120 rfl by120 bk_rows rfl (by simp [Value.oneCell']) (by simp [maxLen]; omega) (by simp; omega) (bkP_ok2 hp.ok) (fun b2 cap2 tl2 hp2 => ?_)
      refine TrOps.poEq 66 rfl (bkE_c (T := 120) (L := y) (to := (toW t (nth l i) (nth (opL t (nth l i)) k))) (b := b2) (cap := cap2) (tl := tl2) (s := (nth l i)) (c := (nth t.ops ((nth (opL t (nth l i)) k : Nat) : Int)).cost)) ?_
      refine TrOps.joinO 61 66 rfl rfl (by decide) (fun hap => ?_)
      obtain ⟨hok2, hF2⟩ := bk_join hp.ok (e := (bkE y (toW t (nth l i) (nth (opL t (nth l i)) k)) b2 cap2 tl2 (nth l i) (nth t.ops ((nth (opL t (nth l i)) k : Nat) : Int)).cost)) (bkE_p hp2) hap
      refine TrOps.poEq 61 rfl hF2 ?_
      refine TrSet.start ?_
      refine TrSet.succ ⟨?_, ?_, ?_, trivial⟩
      ·refine .inr (TrI.sem rfl (OpSem.loadb1 rfl rfl rfl vs108 rfl) rfl rfl (by decide) rfl ?_)
       refine TrSet.succ ⟨?_, ?_, trivial⟩
       ·refine .inr (TrI.sem rfl (OpSem.fieldr rfl rfl fo117_2) rfl rfl (by decide) rfl ?_)
        refine TrSet.succ ⟨?_, trivial⟩
        ·refine .inr (TrI.sem rfl (OpSem.loadb1 rfl rfl rfl vs72 rfl) rfl rfl (by decide) rfl ?_)
         refine TrSet.zero ?_
         refine TrOps.ofSt0' (OpSt.putO (h := 60) (l := (bkM y)) (n := ((toW t (nth l i) (nth (opL t (nth l i)) k)) : Int)) (v := slc b2 (((bkA y (toW t (nth l i) (nth (opL t (nth l i)) k))).map bkRow).length + 1) cap2) (F' := oneO bb (.m (bkM (bkUp y (bkE y (toW t (nth l i) (nth (opL t (nth l i)) k)) b2 cap2 tl2 (nth l i) (nth t.ops ((nth (opL t (nth l i)) k : Nat) : Int)).cost))))) (.inl rfl) rfl rfl rfl (fun H => rfl) oneO_s mt108 iu72 bkE_put) rfl rfl rfl ?_
         refine TrOps.nil ?_
         refine At.block_normal ?_
         refine At.endR (bkUp y (bkE y (toW t (nth l i) (nth (opL t (nth l i)) k)) b2 cap2 tl2 (nth l i) (nth t.ops ((nth (opL t (nth l i)) k : Nat) : Int)).cost)) (hp.add hok2 rfl rfl) ?_
         exact .slot rfl (.refl _) <| .slot rfl (.refl _) <| .slot rfl (.refl _) <| .slot rfl (.refl _) <| .slot rfl (.refl _) <| .slot rfl (.refl _) <| .slot rfl (.refl _) <| .slot rfl (.refl _) <| .mem rfl <| .mem rfl <| .mem rfl <| .mem rfl <| .mem rfl <| .mem rfl <| .mem rfl <| .mem rfl <| .mem rfl <| .mem rfl <| .mem rfl <| .mem rfl <| .mem rfl <| .mem rfl <| .mem rfl <| .nil
       ·exact .inl (by kernel_rfl)
      ·refine .inr (TrI.sem rfl (OpSem.fieldr rfl rfl fo117_2) rfl rfl (by decide) rfl ?_)
       refine TrSet.succ ⟨?_, ?_, trivial⟩
       ·refine .inr (TrI.sem rfl (OpSem.loadb1 rfl rfl rfl vs108 rfl) rfl rfl (by decide) rfl ?_)
        refine TrSet.succ ⟨?_, trivial⟩
        ·refine .inr (TrI.sem rfl (OpSem.loadb1 rfl rfl rfl vs72 rfl) rfl rfl (by decide) rfl ?_)
         refine TrSet.zero ?_
         refine TrOps.ofSt0' (OpSt.putO (h := 60) (l := (bkM y)) (n := ((toW t (nth l i) (nth (opL t (nth l i)) k)) : Int)) (v := slc b2 (((bkA y (toW t (nth l i) (nth (opL t (nth l i)) k))).map bkRow).length + 1) cap2) (F' := oneO bb (.m (bkM (bkUp y (bkE y (toW t (nth l i) (nth (opL t (nth l i)) k)) b2 cap2 tl2 (nth l i) (nth t.ops ((nth (opL t (nth l i)) k : Nat) : Int)).cost))))) (.inl rfl) rfl rfl rfl (fun H => rfl) oneO_s mt108 iu72 bkE_put) rfl rfl rfl ?_
         refine TrOps.nil ?_
         refine At.block_normal ?_
         refine At.endR (bkUp y (bkE y (toW t (nth l i) (nth (opL t (nth l i)) k)) b2 cap2 tl2 (nth l i) (nth t.ops ((nth (opL t (nth l i)) k : Nat) : Int)).cost)) (hp.add hok2 rfl rfl) ?_
         exact .slot rfl (.refl _) <| .slot rfl (.refl _) <| .slot rfl (.refl _) <| .slot rfl (.refl _) <| .slot rfl (.refl _) <| .slot rfl (.refl _) <| .slot rfl (.refl _) <| .slot rfl (.refl _) <| .mem rfl <| .mem rfl <| .mem rfl <| .mem rfl <| .mem rfl <| .mem rfl <| .mem rfl <| .mem rfl <| .mem rfl <| .mem rfl <| .mem rfl <| .mem rfl <| .mem rfl <| .mem rfl <| .mem rfl <| .nil
       ·refine .inr (TrI.sem rfl (OpSem.loadb1 rfl rfl rfl vs72 rfl) rfl rfl (by decide) rfl ?_)
        refine TrSet.succ ⟨?_, trivial⟩
        ·refine .inr (TrI.sem rfl (OpSem.loadb1 rfl rfl rfl vs108 rfl) rfl rfl (by decide) rfl ?_)
         refine TrSet.zero ?_
         refine TrOps.ofSt0' (OpSt.putO (h := 60) (l := (bkM y)) (n := ((toW t (nth l i) (nth (opL t (nth l i)) k)) : Int)) (v := slc b2 (((bkA y (toW t (nth l i) (nth (opL t (nth l i)) k))).map bkRow).length + 1) cap2) (F' := oneO bb (.m (bkM (bkUp y (bkE y (toW t (nth l i) (nth (opL t (nth l i)) k)) b2 cap2 tl2 (nth l i) (nth t.ops ((nth (opL t (nth l i)) k : Nat) : Int)).cost))))) (.inl rfl) rfl rfl rfl (fun H => rfl) oneO_s mt108 iu72 bkE_put) rfl rfl rfl ?_
         refine TrOps.nil ?_
         refine At.block_normal ?_
         refine At.endR (bkUp y (bkE y (toW t (nth l i) (nth (opL t (nth l i)) k)) b2 cap2 tl2 (nth l i) (nth t.ops ((nth (opL t (nth l i)) k : Nat) : Int)).cost)) (hp.add hok2 rfl rfl) ?_
         exact .slot rfl (.refl _) <| .slot rfl (.refl _) <| .slot rfl (.refl _) <| .slot rfl (.refl _) <| .slot rfl (.refl _) <| .slot rfl (.refl _) <| .slot rfl (.refl _) <| .slot rfl (.refl _) <| .mem rfl <| .mem rfl <| .mem rfl <| .mem rfl <| .mem rfl <| .mem rfl <| .mem rfl <| .mem rfl <| .mem rfl <| .mem rfl <| .mem rfl <| .mem rfl <| .mem rfl <| .mem rfl <| .mem rfl <| .nil
      ·exact .inl (by kernel_rfl)
    ·rintro y ds2 hp
     refine AtD.block_normal ?_
     refine AtD.block_normal ?_
     refine AtD.seq ?_
     refine TrD.region ?_
     refine TrOps.sem (OpSem.bin rfl rfl rfl (badd (by first | omega | (simp only []; omega)) (by first | omega | (simp only []; omega)))) rfl rfl (by decide) ?_
     refine TrOps.sem (OpSem.move (.inl rfl) rfl) rfl rfl (by decide) ?_
     refine TrOps.nil ?_
     refine AtD.again ⟨i + 1, y, (wUp (wUp Lo (nth l i) 1000000000) (nth l i) 0), p1, A1, m1, IntKind.i64.wrap (tm + 1)⟩ ⟨by simp; omega, hp.nx hi hop, hS.yes hi hg hU1, hQ1⟩ ?_ (by simp; omega)
     exact .slot rfl (.refl _) <| .slot rfl (.refl _) <| .slot rfl (.refl _) <| .slot rfl (.refl _) <| .slot rfl (.refl _) <| .slot rfl (.refl _) <| .slot rfl (Le.of_eq (by simp)) <| .mem rfl <| .mem rfl <| .mem rfl <| .mem rfl <| .mem rfl <| .mem rfl <| .mem rfl <| .mem rfl <| .mem rfl <| .mem rfl <| .mem rfl <| .mem rfl <| .nil
   ·have hg : ¬ goW t (nth l i) := of_decide_eq_false c29
    refine TrD.skip ?_
    refine AtD.seq ?_
    refine TrD.seq ?_
    refine TrD.region ?_
    refine TrOps.sem (OpSem.move (.inl rfl) rfl) rfl rfl (by decide) ?_
    refine TrOps.sem (OpSem.loadb1 rfl rfl rfl vs72 rfl) rfl rfl (by decide) ?_
    refine TrOps.callM (hs := []) (kd := 5037) (F := fo []) (space_Words_Steps_M (s := (nth l i))) rfl rfl rfl (by decide) rfl rfl (fun H => rfl) rfl (by decide) (by decide) (.nil) .nil ?_ (by decide)
    rintro _ _ _ ⟨x1, x2, rfl, rfl, rfl⟩
    refine TrOps.nil ?_
    refine AtD.seq ?_
    refine TrD.block ?_
    refine TrD.range (Y := List BkE) (n := (opL t (nth l i)).length) (gf := 81) (lb := [x1, x2]) (enc := fun j => stV t (nth l i) (nth (opL t (nth l i)) j)) [(0, .d (.v (ptr bw ow))), (5, .r 5 0), (6, .d (.v (.map (some bo)))), (7, .d (.v (ptr q 0))), (9, .r 9 0), (19, .d (.v lv)), (20, I (l.length)), (21, I ((i : Int)))] (fun k y => [(60, poM (oneO bb (.m (bkM y)))), (0, poM (oneO bo (.m (wMp (wUp Lo (nth l i) 1000000000))))), (62, poM (oneO q (.c Tq [plV p A.length, .map (some bq), .int .i64 (tm)]))), (63, poM (plMe 160 p (arrV A))), (64, poM (enF A)), (65, poM (oneO bq (.m m))), (61, poM (bkF 120 y)), (5, .box [.d (.v (.map (some bb)))]), (9, .box [.d (.v (.int .u32 ((((nth l (i : Int)) : Nat) : Int))))]), (999, .any (restK Oc W)), (1000, .fr (frK Oc W)), (1001, .fr (dsS [(ptr bw ow, .p [.v (.int .u32 (wdF t.ini : Int)), .v (.int .u32 (wdF t.goal : Int)), .v sv]), (sv, .d (mssD t.ops)), (lv, .d (wrdL l))]))]) (fun k y => BkI t (l.take i) (nth l i) k (i * 40 + k) y) Lb (fun k => .g [I (((nth (opL t (nth l i)) k : Nat) : Int)), I ((nth t.ops ((nth (opL t (nth l i)) k : Nat) : Int)).cost), .d (.v (.int .u32 (((toW t (nth l i) (nth (opL t (nth l i)) k)) : Int))))]) rfl (fun O H a w hst => space_Words_Steps_1_seq t hV (nth l i) hs24 (DsIn.rep hst (.cons 5037 rfl (.head _) <| .cons 5037 rfl (.tail _ (.head _)) <| .cons 1001 rfl (.head _) <| .cons 1001 rfl (.tail _ (.head _)) .nil))) Tryz.call81 hB.at0 ?_ rfl rfl rfl (by decide) rfl rfl rfl rfl rfl (fun k y => ⟨rfl, rfl⟩) (fun k O H w => stV_rep) ?_ ?_
    ·exact .slot rfl (.refl _) <| .slot rfl (.refl _) <| .slot rfl (.refl _) <| .slot rfl (.refl _) <| .slot rfl (.refl _) <| .slot rfl (.refl _) <| .slot rfl (.refl _) <| .slot rfl (.refl _) <| .mem rfl <| .mem rfl <| .mem rfl <| .mem rfl <| .mem rfl <| .mem rfl <| .mem rfl <| .mem rfl <| .mem rfl <| .mem rfl <| .mem rfl <| .mem rfl <| .nil
    ·rintro k y lz r0 r1 ds2 Kz hk hp hlz
     have hn := hp.n (toW t (nth l i) (nth (opL t (nth l i)) k))
     refine Tr.region ?_
     refine TrOps.semM (OpSem.alloc 10 rfl zc117 rfl) rfl rfl (by decide) ?_
     refine TrOps.storeb rfl rfl rfl rfl rfl rfl rfl vs117 (by first | decide | simp) ?_
     refine TrOps.nil ?_
     refine At.begR (e1 := [(0, .d (.v (ptr bw ow))), (5, .r 5 0), (6, .d (.v (.map (some bo)))), (7, .d (.v (ptr q 0))), (9, .r 9 0), (19, .d (.v lv)), (20, I (l.length)), (21, I ((i : Int))), (10, .r 10 0)]) (M1 := [(9002, .any (dsK Oc W ds2)), (9003, .fr Kz), (60, poM (oneO bb (.m (bkM y)))), (0, poM (oneO bo (.m (wMp (wUp Lo (nth l i) 1000000000))))), (62, poM (oneO q (.c Tq [plV p A.length, .map (some bq), .int .i64 (tm)]))), (63, poM (plMe 160 p (arrV A))), (64, poM (enF A)), (65, poM (oneO bq (.m m))), (61, poM (bkF 120 y)), (5, .box [.d (.v (.map (some bb)))]), (9, .box [.d (.v (.int .u32 ((((nth l (i : Int)) : Nat) : Int))))]), (999, .any (restK Oc W)), (1000, .fr (frK Oc W)), (1001, .fr (dsS [(ptr bw ow, .p [.v (.int .u32 (wdF t.ini : Int)), .v (.int .u32 (wdF t.goal : Int)), .v sv]), (sv, .d (mssD t.ops)), (lv, .d (wrdL l))])), (10, .box [I (((nth (opL t (nth l i)) k : Nat) : Int)), I ((nth t.ops ((nth (opL t (nth l i)) k : Nat) : Int)).cost), .d (.v (.int .u32 (((toW t (nth l i) (nth (opL t (nth l i)) k)) : Int))))])]) (.slot rfl (.refl _) <| .slot rfl (.refl _) <| .slot rfl (.refl _) <| .slot rfl (.refl _) <| .slot rfl (.refl _) <| .slot rfl (.refl _) <| .slot rfl (.refl _) <| .slot rfl (.refl _) <| .slot rfl (.refl _) <| .mem rfl <| .mem rfl <| .mem rfl <| .mem rfl <| .mem rfl <| .mem rfl <| .mem rfl <| .mem rfl <| .mem rfl <| .mem rfl <| .mem rfl <| .mem rfl <| .mem rfl <| .mem rfl <| .mem rfl <| .mem rfl <| .nil) hlz ?_
     refine Tr.block ?_
     refine PC.start [] ?_
     refine PC.sem (OpSem.loadb1 rfl rfl rfl vs108 rfl) rfl rfl ?_
     refine PC.sem (OpSem.fieldr rfl rfl fo117_2) rfl rfl ?_
     refine PC.sem (OpSem.loadb1 rfl rfl rfl vs72 rfl) rfl rfl ?_
     refine PC.sem (OpSem.loadb1 rfl rfl rfl vs108 rfl) rfl rfl ?_
     refine PC.sem (OpSem.fieldr rfl rfl fo117_2) rfl rfl ?_
     refine PC.sem (OpSem.loadb1 rfl rfl rfl vs72 rfl) rfl rfl ?_
     refine PC.sem (OpSem.lookO (h := 60) (l := bkM y) (n := ((toW t (nth l i) (nth (opL t (nth l i)) k)) : Int)) (v := plV (bkP y (toW t (nth l i) (nth (opL t (nth l i)) k))) (((bkA y (toW t (nth l i) (nth (opL t (nth l i)) k))).map bkRow).length)) rfl rfl rfl rfl oneO_s mt108 iu72 zw118 bk_look2) rfl rfl ?_
     refine PC.sem (OpSem.loadb1 rfl rfl rfl vs72 rfl) rfl rfl ?_
     refine PC.sem (OpSem.fieldr rfl rfl fo117_1) rfl rfl ?_
     refine PC.sem (OpSem.loadb1 rfl rfl rfl vs3 rfl) rfl rfl ?_
     refine PC.sem (OpSem.build rfl rfl pl120 zc120 rfl rfl) rfl rfl ?_
     refine PC.sem (OpSem.buildSlice rfl rfl es118 ze118 rfl rfl (by decide) (by decide) rfl rfl) rfl rfl ?_
     refine PC.doneS [0, 1, 2] [[], [2], [1], [1, 2], [0], [0, 2], [0, 1], [0, 1, 2]] mixed (by kernel_rfl) (by kernel_rfl) (by kernel_rfl) (by kernel_rfl) (by kernel_rfl) (by decide) rfl (by kernel_rfl) ⟨?_, ?_, ?_, ?_, ?_, ?_, ?_, ?_, trivial⟩
     ·refine ⟨[], _, by kernel_rfl, by repeat' (first | exact .nil | (apply DropRs.hit; rfl) | (apply DropRs.miss; rfl)), ?_⟩
      refine TrOps.splitO (F1 := bkF 120 (bkX y (toW t (nth l i) (nth (opL t (nth l i)) k)))) (G := plMe 120 (bkP y (toW t (nth l i) (nth (opL t (nth l i)) k))) ((bkA y (toW t (nth l i) (nth (opL t (nth l i)) k))).map bkRow).flatten) 61 66 rfl (by decide) (bk_split hp.ok) (bk_own hp.ok) ?_
      refine TrOps.appendO (h := 66) (p := (bkP y (toW t (nth l i) (nth (opL t (nth l i)) k)))) (rows := ((bkA y (toW t (nth l i) (nth (opL t (nth l i)) k))).map bkRow)) (r := [.int .u32 ((((nth l i) : Nat) : Int)), .int .i64 ((nth t.ops ((nth (opL t (nth l i)) k : Nat) : Int)).cost)]) rfl rfl rfl (by decide) rfl rfl rfl es118 el118 zc120 rfl by120 bk_rows rfl (by simp [Value.oneCell']) (by simp [maxLen]; omega) (by simp; omega) (bkP_ok2 hp.ok) (fun b2 cap2 tl2 hp2 => ?_)
      refine TrOps.poEq 66 rfl (bkE_c (T := 120) (L := y) (to := (toW t (nth l i) (nth (opL t (nth l i)) k))) (b := b2) (cap := cap2) (tl := tl2) (s := (nth l i)) (c := (nth t.ops ((nth (opL t (nth l i)) k : Nat) : Int)).cost)) ?_
      refine TrOps.joinO 61 66 rfl rfl (by decide) (fun hap => ?_)
      obtain ⟨hok2, hF2⟩ := bk_join hp.ok (e := (bkE y (toW t (nth l i) (nth (opL t (nth l i)) k)) b2 cap2 tl2 (nth l i) (nth t.ops ((nth (opL t (nth l i)) k : Nat) : Int)).cost)) (bkE_p hp2) hap
      refine TrOps.poEq 61 rfl hF2 ?_
      refine TrSet.start ?_
      refine TrSet.zero ?_
      refine TrOps.ofSt0' (OpSt.putO (h := 60) (l := (bkM y)) (n := ((toW t (nth l i) (nth (opL t (nth l i)) k)) : Int)) (v := slc b2 (((bkA y (toW t (nth l i) (nth (opL t (nth l i)) k))).map bkRow).length + 1) cap2) (F' := oneO bb (.m (bkM (bkUp y (bkE y (toW t (nth l i) (nth (opL t (nth l i)) k)) b2 cap2 tl2 (nth l i) (nth t.ops ((nth (opL t (nth l i)) k : Nat) : Int)).cost))))) (.inl rfl) rfl rfl rfl (fun H => rfl) oneO_s mt108 iu72 bkE_put) rfl rfl rfl ?_
      refine TrOps.nil ?_
      refine At.block_normal ?_
      refine At.endR (bkUp y (bkE y (toW t (nth l i) (nth (opL t (nth l i)) k)) b2 cap2 tl2 (nth l i) (nth t.ops ((nth (opL t (nth l i)) k : Nat) : Int)).cost)) (hp.add hok2 rfl rfl) ?_
      exact .slot rfl (.refl _) <| .slot rfl (.refl _) <| .slot rfl (.refl _) <| .slot rfl (.refl _) <| .slot rfl (.refl _) <| .slot rfl (.refl _) <| .slot rfl (.refl _) <| .slot rfl (.refl _) <| .mem rfl <| .mem rfl <| .mem rfl <| .mem rfl <| .mem rfl <| .mem rfl <| .mem rfl <| .mem rfl <| .mem rfl <| .mem rfl <| .mem rfl <| .mem rfl <| .mem rfl <| .mem rfl <| .mem rfl <| .nil
     ·refine ⟨[41], _, by kernel_rfl, by repeat' (first | exact .nil | (apply DropRs.hit; rfl) | (apply DropRs.miss; rfl)), ?_⟩
      refine TrOps.splitO (F1 := bkF 120 (bkX y (toW t (nth l i) (nth (opL t (nth l i)) k)))) (G := plMe 120 (bkP y (toW t (nth l i) (nth (opL t (nth l i)) k))) ((bkA y (toW t (nth l i) (nth (opL t (nth l i)) k))).map bkRow).flatten) 61 66 rfl (by decide) (bk_split hp.ok) (bk_own hp.ok) ?_
      refine TrOps.appendO (h := 66) (p := (bkP y (toW t (nth l i) (nth (opL t (nth l i)) k)))) (rows := ((bkA y (toW t (nth l i) (nth (opL t (nth l i)) k))).map bkRow)) (r := [.int .u32 ((((nth l i) : Nat) : Int)), .int .i64 ((nth t.ops ((nth (opL t (nth l i)) k : Nat) : Int)).cost)]) rfl rfl rfl (by decide) rfl rfl rfl es118 el118 zc120 rfl by120 bk_rows rfl (by simp [Value.oneCell']) (by simp [maxLen]; omega) (by simp; omega) (bkP_ok2 hp.ok) (fun b2 cap2 tl2 hp2 => ?_)
      refine TrOps.poEq 66 rfl (bkE_c (T := 120) (L := y) (to := (toW t (nth l i) (nth (opL t (nth l i)) k))) (b := b2) (cap := cap2) (tl := tl2) (s := (nth l i)) (c := (nth t.ops ((nth (opL t (nth l i)) k : Nat) : Int)).cost)) ?_
      refine TrOps.joinO 61 66 rfl rfl (by decide) (fun hap => ?_)
      obtain ⟨hok2, hF2⟩ := bk_join hp.ok (e := (bkE y (toW t (nth l i) (nth (opL t (nth l i)) k)) b2 cap2 tl2 (nth l i) (nth t.ops ((nth (opL t (nth l i)) k : Nat) : Int)).cost)) (bkE_p hp2) hap
      refine TrOps.poEq 61 rfl hF2 ?_
      refine TrSet.start ?_
      refine TrSet.succ ⟨?_, trivial⟩
      ·refine .inr (TrI.sem rfl (OpSem.loadb1 rfl rfl rfl vs72 rfl) rfl rfl (by decide) rfl ?_)
       refine TrSet.zero ?_
       refine TrOps.ofSt0' (OpSt.putO (h := 60) (l := (bkM y)) (n := ((toW t (nth l i) (nth (opL t (nth l i)) k)) : Int)) (v := slc b2 (((bkA y (toW t (nth l i) (nth (opL t (nth l i)) k))).map bkRow).length + 1) cap2) (F' := oneO bb (.m (bkM (bkUp y (bkE y (toW t (nth l i) (nth (opL t (nth l i)) k)) b2 cap2 tl2 (nth l i) (nth t.ops ((nth (opL t (nth l i)) k : Nat) : Int)).cost))))) (.inl rfl) rfl rfl rfl (fun H => rfl) oneO_s mt108 iu72 bkE_put) rfl rfl rfl ?_
       refine TrOps.nil ?_
       refine At.block_normal ?_
       refine At.endR (bkUp y (bkE y (toW t (nth l i) (nth (opL t (nth l i)) k)) b2 cap2 tl2 (nth l i) (nth t.ops ((nth (opL t (nth l i)) k : Nat) : Int)).cost)) (hp.add hok2 rfl rfl) ?_
       exact .slot rfl (.refl _) <| .slot rfl (.refl _) <| .slot rfl (.refl _) <| .slot rfl (.refl _) <| .slot rfl (.refl _) <| .slot rfl (.refl _) <| .slot rfl (.refl _) <| .slot rfl (.refl _) <| .mem rfl <| .mem rfl <| .mem rfl <| .mem rfl <| .mem rfl <| .mem rfl <| .mem rfl <| .mem rfl <| .mem rfl <| .mem rfl <| .mem rfl <| .mem rfl <| .mem rfl <| .mem rfl <| .mem rfl <| .nil
     ·refine ⟨[40], _, by kernel_rfl, by repeat' (first | exact .nil | (apply DropRs.hit; rfl) | (apply DropRs.miss; rfl)), ?_⟩
      refine TrOps.splitO (F1 := bkF 120 (bkX y (toW t (nth l i) (nth (opL t (nth l i)) k)))) (G := plMe 120 (bkP y (toW t (nth l i) (nth (opL t (nth l i)) k))) ((bkA y (toW t (nth l i) (nth (opL t (nth l i)) k))).map bkRow).flatten) 61 66 rfl (by decide) (bk_split hp.ok) (bk_own hp.ok) ?_
      refine TrOps.appendO (h := 66) (p := (bkP y (toW t (nth l i) (nth (opL t (nth l i)) k)))) (rows := ((bkA y (toW t (nth l i) (nth (opL t (nth l i)) k))).map bkRow)) (r := [.int .u32 ((((nth l i) : Nat) : Int)), .int .i64 ((nth t.ops ((nth (opL t (nth l i)) k : Nat) : Int)).cost)]) rfl rfl rfl (by decide) rfl rfl rfl es118 el118 zc120 rfl by120 bk_rows rfl (by simp [Value.oneCell']) (by simp [maxLen]; omega) (by simp; omega) (bkP_ok2 hp.ok) (fun b2 cap2 tl2 hp2 => ?_)
      refine TrOps.poEq 66 rfl (bkE_c (T := 120) (L := y) (to := (toW t (nth l i) (nth (opL t (nth l i)) k))) (b := b2) (cap := cap2) (tl := tl2) (s := (nth l i)) (c := (nth t.ops ((nth (opL t (nth l i)) k : Nat) : Int)).cost)) ?_
      refine TrOps.joinO 61 66 rfl rfl (by decide) (fun hap => ?_)
      obtain ⟨hok2, hF2⟩ := bk_join hp.ok (e := (bkE y (toW t (nth l i) (nth (opL t (nth l i)) k)) b2 cap2 tl2 (nth l i) (nth t.ops ((nth (opL t (nth l i)) k : Nat) : Int)).cost)) (bkE_p hp2) hap
      refine TrOps.poEq 61 rfl hF2 ?_
      refine TrSet.start ?_
      refine TrSet.succ ⟨?_, trivial⟩
      ·refine .inr (TrI.sem rfl (OpSem.fieldr rfl rfl fo117_2) rfl rfl (by decide) rfl ?_)
       refine TrSet.zero ?_
       refine TrOps.ofSt0' (OpSt.putO (h := 60) (l := (bkM y)) (n := ((toW t (nth l i) (nth (opL t (nth l i)) k)) : Int)) (v := slc b2 (((bkA y (toW t (nth l i) (nth (opL t (nth l i)) k))).map bkRow).length + 1) cap2) (F' := oneO bb (.m (bkM (bkUp y (bkE y (toW t (nth l i) (nth (opL t (nth l i)) k)) b2 cap2 tl2 (nth l i) (nth t.ops ((nth (opL t (nth l i)) k : Nat) : Int)).cost))))) (.inl rfl) rfl rfl rfl (fun H => rfl) oneO_s mt108 iu72 bkE_put) rfl rfl rfl ?_
       refine TrOps.nil ?_
       refine At.block_normal ?_
       refine At.endR (bkUp y (bkE y (toW t (nth l i) (nth (opL t (nth l i)) k)) b2 cap2 tl2 (nth l i) (nth t.ops ((nth (opL t (nth l i)) k : Nat) : Int)).cost)) (hp.add hok2 rfl rfl) ?_
       exact .slot rfl (.refl _) <| .slot rfl (.refl _) <| .slot rfl (.refl _) <| .slot rfl (.refl _) <| .slot rfl (.refl _) <| .slot rfl (.refl _) <| .slot rfl (.refl _) <| .slot rfl (.refl _) <| .mem rfl <| .mem rfl <| .mem rfl <| .mem rfl <| .mem rfl <| .mem rfl <| .mem rfl <| .mem rfl <| .mem rfl <| .mem rfl <| .mem rfl <| .mem rfl <| .mem rfl <| .mem rfl <| .mem rfl <| .nil
     ·refine ⟨[40, 41], _, by kernel_rfl, by repeat' (first | exact .nil | (apply DropRs.hit; rfl) | (apply DropRs.miss; rfl)), ?_⟩
      refine TrOps.splitO (F1 := bkF 120 (bkX y (toW t (nth l i) (nth (opL t (nth l i)) k)))) (G := plMe 120 (bkP y (toW t (nth l i) (nth (opL t (nth l i)) k))) ((bkA y (toW t (nth l i) (nth (opL t (nth l i)) k))).map bkRow).flatten) 61 66 rfl (by decide) (bk_split hp.ok) (bk_own hp.ok) ?_
      refine TrOps.appendO (h := 66) (p := (bkP y (toW t (nth l i) (nth (opL t (nth l i)) k)))) (rows := ((bkA y (toW t (nth l i) (nth (opL t (nth l i)) k))).map bkRow)) (r := [.int .u32 ((((nth l i) : Nat) : Int)), .int .i64 ((nth t.ops ((nth (opL t (nth l i)) k : Nat) : Int)).cost)]) rfl rfl rfl (by decide) rfl rfl rfl es118 el118 zc120 rfl by120 bk_rows rfl (by simp [Value.oneCell']) (by simp [maxLen]; omega) (by simp; omega) (bkP_ok2 hp.ok) (fun b2 cap2 tl2 hp2 => ?_)
      refine TrOps.poEq 66 rfl (bkE_c (T := 120) (L := y) (to := (toW t (nth l i) (nth (opL t (nth l i)) k))) (b := b2) (cap := cap2) (tl := tl2) (s := (nth l i)) (c := (nth t.ops ((nth (opL t (nth l i)) k : Nat) : Int)).cost)) ?_
      refine TrOps.joinO 61 66 rfl rfl (by decide) (fun hap => ?_)
      obtain ⟨hok2, hF2⟩ := bk_join hp.ok (e := (bkE y (toW t (nth l i) (nth (opL t (nth l i)) k)) b2 cap2 tl2 (nth l i) (nth t.ops ((nth (opL t (nth l i)) k : Nat) : Int)).cost)) (bkE_p hp2) hap
      refine TrOps.poEq 61 rfl hF2 ?_
      refine TrSet.start ?_
      refine TrSet.succ ⟨?_, ?_, trivial⟩
      ·refine .inr (TrI.sem rfl (OpSem.fieldr rfl rfl fo117_2) rfl rfl (by decide) rfl ?_)
       refine TrSet.succ ⟨?_, trivial⟩
       ·refine .inr (TrI.sem rfl (OpSem.loadb1 rfl rfl rfl vs72 rfl) rfl rfl (by decide) rfl ?_)
        refine TrSet.zero ?_
        refine TrOps.ofSt0' (OpSt.putO (h := 60) (l := (bkM y)) (n := ((toW t (nth l i) (nth (opL t (nth l i)) k)) : Int)) (v := slc b2 (((bkA y (toW t (nth l i) (nth (opL t (nth l i)) k))).map bkRow).length + 1) cap2) (F' := oneO bb (.m (bkM (bkUp y (bkE y (toW t (nth l i) (nth (opL t (nth l i)) k)) b2 cap2 tl2 (nth l i) (nth t.ops ((nth (opL t (nth l i)) k : Nat) : Int)).cost))))) (.inl rfl) rfl rfl rfl (fun H => rfl) oneO_s mt108 iu72 bkE_put) rfl rfl rfl ?_
        refine TrOps.nil ?_
        refine At.block_normal ?_
        refine At.endR (bkUp y (bkE y (toW t (nth l i) (nth (opL t (nth l i)) k)) b2 cap2 tl2 (nth l i) (nth t.ops ((nth (opL t (nth l i)) k : Nat) : Int)).cost)) (hp.add hok2 rfl rfl) ?_
        exact .slot rfl (.refl _) <| .slot rfl (.refl _) <| .slot rfl (.refl _) <| .slot rfl (.refl _) <| .slot rfl (.refl _) <| .slot rfl (.refl _) <| .slot rfl (.refl _) <| .slot rfl (.refl _) <| .mem rfl <| .mem rfl <| .mem rfl <| .mem rfl <| .mem rfl <| .mem rfl <| .mem rfl <| .mem rfl <| .mem rfl <| .mem rfl <| .mem rfl <| .mem rfl <| .mem rfl <| .mem rfl <| .mem rfl <| .nil
      ·exact .inl (by kernel_rfl)
     ·refine ⟨[39], _, by kernel_rfl, by repeat' (first | exact .nil | (apply DropRs.hit; rfl) | (apply DropRs.miss; rfl)), ?_⟩
      refine TrOps.splitO (F1 := bkF 120 (bkX y (toW t (nth l i) (nth (opL t (nth l i)) k)))) (G := plMe 120 (bkP y (toW t (nth l i) (nth (opL t (nth l i)) k))) ((bkA y (toW t (nth l i) (nth (opL t (nth l i)) k))).map bkRow).flatten) 61 66 rfl (by decide) (bk_split hp.ok) (bk_own hp.ok) ?_
      refine TrOps.appendO (h := 66) (p := (bkP y (toW t (nth l i) (nth (opL t (nth l i)) k)))) (rows := ((bkA y (toW t (nth l i) (nth (opL t (nth l i)) k))).map bkRow)) (r := [.int .u32 ((((nth l i) : Nat) : Int)), .int .i64 ((nth t.ops ((nth (opL t (nth l i)) k : Nat) : Int)).cost)]) rfl rfl rfl (by decide) rfl rfl rfl es118 el118 zc120 rfl by120 bk_rows rfl (by simp [Value.oneCell']) (by simp [maxLen]; omega) (by simp; omega) (bkP_ok2 hp.ok) (fun b2 cap2 tl2 hp2 => ?_)
      refine TrOps.poEq 66 rfl (bkE_c (T := 120) (L := y) (to := (toW t (nth l i) (nth (opL t (nth l i)) k))) (b := b2) (cap := cap2) (tl := tl2) (s := (nth l i)) (c := (nth t.ops ((nth (opL t (nth l i)) k : Nat) : Int)).cost)) ?_
      refine TrOps.joinO 61 66 rfl rfl (by decide) (fun hap => ?_)
      obtain ⟨hok2, hF2⟩ := bk_join hp.ok (e := (bkE y (toW t (nth l i) (nth (opL t (nth l i)) k)) b2 cap2 tl2 (nth l i) (nth t.ops ((nth (opL t (nth l i)) k : Nat) : Int)).cost)) (bkE_p hp2) hap
      refine TrOps.poEq 61 rfl hF2 ?_
      refine TrSet.start ?_
      refine TrSet.succ ⟨?_, trivial⟩
      ·refine .inr (TrI.sem rfl (OpSem.loadb1 rfl rfl rfl vs108 rfl) rfl rfl (by decide) rfl ?_)
       refine TrSet.zero ?_
       refine TrOps.ofSt0' (OpSt.putO (h := 60) (l := (bkM y)) (n := ((toW t (nth l i) (nth (opL t (nth l i)) k)) : Int)) (v := slc b2 (((bkA y (toW t (nth l i) (nth (opL t (nth l i)) k))).map bkRow).length + 1) cap2) (F' := oneO bb (.m (bkM (bkUp y (bkE y (toW t (nth l i) (nth (opL t (nth l i)) k)) b2 cap2 tl2 (nth l i) (nth t.ops ((nth (opL t (nth l i)) k : Nat) : Int)).cost))))) (.inl rfl) rfl rfl rfl (fun H => rfl) oneO_s mt108 iu72 bkE_put) rfl rfl rfl ?_
       refine TrOps.nil ?_
       refine At.block_normal ?_
       refine At.endR (bkUp y (bkE y (toW t (nth l i) (nth (opL t (nth l i)) k)) b2 cap2 tl2 (nth l i) (nth t.ops ((nth (opL t (nth l i)) k : Nat) : Int)).cost)) (hp.add hok2 rfl rfl) ?_
       exact .slot rfl (.refl _) <| .slot rfl (.refl _) <| .slot rfl (.refl _) <| .slot rfl (.refl _) <| .slot rfl (.refl _) <| .slot rfl (.refl _) <| .slot rfl (.refl _) <| .slot rfl (.refl _) <| .mem rfl <| .mem rfl <| .mem rfl <| .mem rfl <| .mem rfl <| .mem rfl <| .mem rfl <| .mem rfl <| .mem rfl <| .mem rfl <| .mem rfl <| .mem rfl <| .mem rfl <| .mem rfl <| .mem rfl <| .nil
     ·refine ⟨[39, 41], _, by kernel_rfl, by repeat' (first | exact .nil | (apply DropRs.hit; rfl) | (apply DropRs.miss; rfl)), ?_⟩
      refine TrOps.splitO (F1 := bkF 120 (bkX y (toW t (nth l i) (nth (opL t (nth l i)) k)))) (G := plMe 120 (bkP y (toW t (nth l i) (nth (opL t (nth l i)) k))) ((bkA y (toW t (nth l i) (nth (opL t (nth l i)) k))).map bkRow).flatten) 61 66 rfl (by decide) (bk_split hp.ok) (bk_own hp.ok) ?_
      refine TrOps.appendO (h := 66) (p := (bkP y (toW t (nth l i) (nth (opL t (nth l i)) k)))) (rows := ((bkA y (toW t (nth l i) (nth (opL t (nth l i)) k))).map bkRow)) (r := [.int .u32 ((((nth l i) : Nat) : Int)), .int .i64 ((nth t.ops ((nth (opL t (nth l i)) k : Nat) : Int)).cost)]) rfl rfl rfl (by decide) rfl rfl rfl es118 el118 zc120 rfl by120 bk_rows rfl (by simp [Value.oneCell']) (by simp [maxLen]; omega) (by simp; omega) (bkP_ok2 hp.ok) (fun b2 cap2 tl2 hp2 => ?_)
      refine TrOps.poEq 66 rfl (bkE_c (T := 120) (L := y) (to := (toW t (nth l i) (nth (opL t (nth l i)) k))) (b := b2) (cap := cap2) (tl := tl2) (s := (nth l i)) (c := (nth t.ops ((nth (opL t (nth l i)) k : Nat) : Int)).cost)) ?_
      refine TrOps.joinO 61 66 rfl rfl (by decide) (fun hap => ?_)
      obtain ⟨hok2, hF2⟩ := bk_join hp.ok (e := (bkE y (toW t (nth l i) (nth (opL t (nth l i)) k)) b2 cap2 tl2 (nth l i) (nth t.ops ((nth (opL t (nth l i)) k : Nat) : Int)).cost)) (bkE_p hp2) hap
      refine TrOps.poEq 61 rfl hF2 ?_
      refine TrSet.start ?_
      refine TrSet.succ ⟨?_, ?_, trivial⟩
      ·refine .inr (TrI.sem rfl (OpSem.loadb1 rfl rfl rfl vs108 rfl) rfl rfl (by decide) rfl ?_)
       refine TrSet.succ ⟨?_, trivial⟩
       ·refine .inr (TrI.sem rfl (OpSem.loadb1 rfl rfl rfl vs72 rfl) rfl rfl (by decide) rfl ?_)
        refine TrSet.zero ?_
        refine TrOps.ofSt0' (OpSt.putO (h := 60) (l := (bkM y)) (n := ((toW t (nth l i) (nth (opL t (nth l i)) k)) : Int)) (v := slc b2 (((bkA y (toW t (nth l i) (nth (opL t (nth l i)) k))).map bkRow).length + 1) cap2) (F' := oneO bb (.m (bkM (bkUp y (bkE y (toW t (nth l i) (nth (opL t (nth l i)) k)) b2 cap2 tl2 (nth l i) (nth t.ops ((nth (opL t (nth l i)) k : Nat) : Int)).cost))))) (.inl rfl) rfl rfl rfl (fun H => rfl) oneO_s mt108 iu72 bkE_put) rfl rfl rfl ?_
        refine TrOps.nil ?_
        refine At.block_normal ?_
        refine At.endR (bkUp y (bkE y (toW t (nth l i) (nth (opL t (nth l i)) k)) b2 cap2 tl2 (nth l i) (nth t.ops ((nth (opL t (nth l i)) k : Nat) : Int)).cost)) (hp.add hok2 rfl rfl) ?_
        exact .slot rfl (.refl _) <| .slot rfl (.refl _) <| .slot rfl (.refl _) <| .slot rfl (.refl _) <| .slot rfl (.refl _) <| .slot rfl (.refl _) <| .slot rfl (.refl _) <| .slot rfl (.refl _) <| .mem rfl <| .mem rfl <| .mem rfl <| .mem rfl <| .mem rfl <| .mem rfl <| .mem rfl <| .mem rfl <| .mem rfl <| .mem rfl <| .mem rfl <| .mem rfl <| .mem rfl <| .mem rfl <| .mem rfl <| .nil
      ·refine .inr (TrI.sem rfl (OpSem.loadb1 rfl rfl rfl vs72 rfl) rfl rfl (by decide) rfl ?_)
       refine TrSet.succ ⟨?_, trivial⟩
       ·refine .inr (TrI.sem rfl (OpSem.loadb1 rfl rfl rfl vs108 rfl) rfl rfl (by decide) rfl ?_)
        refine TrSet.zero ?_
        refine TrOps.ofSt0' (OpSt.putO (h := 60) (l := (bkM y)) (n := ((toW t (nth l i) (nth (opL t (nth l i)) k)) : Int)) (v := slc b2 (((bkA y (toW t (nth l i) (nth (opL t (nth l i)) k))).map bkRow).length + 1) cap2) (F' := oneO bb (.m (bkM (bkUp y (bkE y (toW t (nth l i) (nth (opL t (nth l i)) k)) b2 cap2 tl2 (nth l i) (nth t.ops ((nth (opL t (nth l i)) k : Nat) : Int)).cost))))) (.inl rfl) rfl rfl rfl (fun H => rfl) oneO_s mt108 iu72 bkE_put) rfl rfl rfl ?_
        refine TrOps.nil ?_
        refine At.block_normal ?_
        refine At.endR (bkUp y (bkE y (toW t (nth l i) (nth (opL t (nth l i)) k)) b2 cap2 tl2 (nth l i) (nth t.ops ((nth (opL t (nth l i)) k : Nat) : Int)).cost)) (hp.add hok2 rfl rfl) ?_
        exact .slot rfl (.refl _) <| .slot rfl (.refl _) <| .slot rfl (.refl _) <| .slot rfl (.refl _) <| .slot rfl (.refl _) <| .slot rfl (.refl _) <| .slot rfl (.refl _) <| .slot rfl (.refl _) <| .mem rfl <| .mem rfl <| .mem rfl <| .mem rfl <| .mem rfl <| .mem rfl <| .mem rfl <| .mem rfl <| .mem rfl <| .mem rfl <| .mem rfl <| .mem rfl <| .mem rfl <| .mem rfl <| .mem rfl <| .nil
     ·refine ⟨[39, 40], _, by kernel_rfl, by repeat' (first | exact .nil | (apply DropRs.hit; rfl) | (apply DropRs.miss; rfl)), ?_⟩
      refine TrOps.splitO (F1 := bkF 120 (bkX y (toW t (nth l i) (nth (opL t (nth l i)) k)))) (G := plMe 120 (bkP y (toW t (nth l i) (nth (opL t (nth l i)) k))) ((bkA y (toW t (nth l i) (nth (opL t (nth l i)) k))).map bkRow).flatten) 61 66 rfl (by decide) (bk_split hp.ok) (bk_own hp.ok) ?_
      refine TrOps.appendO (h := 66) (p := (bkP y (toW t (nth l i) (nth (opL t (nth l i)) k)))) (rows := ((bkA y (toW t (nth l i) (nth (opL t (nth l i)) k))).map bkRow)) (r := [.int .u32 ((((nth l i) : Nat) : Int)), .int .i64 ((nth t.ops ((nth (opL t (nth l i)) k : Nat) : Int)).cost)]) rfl rfl rfl (by decide) rfl rfl rfl es118 el118 zc120 rfl by120 bk_rows rfl (by simp [Value.oneCell']) (by simp [maxLen]; omega) (by simp; omega) (bkP_ok2 hp.ok) (fun b2 cap2 tl2 hp2 => ?_)
      refine TrOps.poEq 66 rfl (bkE_c (T := 120) (L := y) (to := (toW t (nth l i) (nth (opL t (nth l i)) k))) (b := b2) (cap := cap2) (tl := tl2) (s := (nth l i)) (c := (nth t.ops ((nth (opL t (nth l i)) k : Nat) : Int)).cost)) ?_
      refine TrOps.joinO 61 66 rfl rfl (by decide) (fun hap => ?_)
      obtain ⟨hok2, hF2⟩ := bk_join hp.ok (e := (bkE y (toW t (nth l i) (nth (opL t (nth l i)) k)) b2 cap2 tl2 (nth l i) (nth t.ops ((nth (opL t (nth l i)) k : Nat) : Int)).cost)) (bkE_p hp2) hap
      refine TrOps.poEq 61 rfl hF2 ?_
      refine TrSet.start ?_
      refine TrSet.succ ⟨?_, ?_, trivial⟩
      ·refine .inr (TrI.sem rfl (OpSem.loadb1 rfl rfl rfl vs108 rfl) rfl rfl (by decide) rfl ?_)
       refine TrSet.succ ⟨?_, trivial⟩
       ·refine .inr (TrI.sem rfl (OpSem.fieldr rfl rfl fo117_2) rfl rfl (by decide) rfl ?_)
        refine TrSet.zero ?_
        refine TrOps.ofSt0' (OpSt.putO (h := 60) (l := (bkM y)) (n := ((toW t (nth l i) (nth (opL t (nth l i)) k)) : Int)) (v := slc b2 (((bkA y (toW t (nth l i) (nth (opL t (nth l i)) k))).map bkRow).length + 1) cap2) (F' := oneO bb (.m (bkM (bkUp y (bkE y (toW t (nth l i) (nth (opL t (nth l i)) k)) b2 cap2 tl2 (nth l i) (nth t.ops ((nth (opL t (nth l i)) k : Nat) : Int)).cost))))) (.inl rfl) rfl rfl rfl (fun H => rfl) oneO_s mt108 iu72 bkE_put) rfl rfl rfl ?_
        refine TrOps.nil ?_
        refine At.block_normal ?_
        refine At.endR (bkUp y (bkE y (toW t (nth l i) (nth (opL t (nth l i)) k)) b2 cap2 tl2 (nth l i) (nth t.ops ((nth (opL t (nth l i)) k : Nat) : Int)).cost)) (hp.add hok2 rfl rfl) ?_
        exact .slot rfl (.refl _) <| .slot rfl (.refl _) <| .slot rfl (.refl _) <| .slot rfl (.refl _) <| .slot rfl (.refl _) <| .slot rfl (.refl _) <| .slot rfl (.refl _) <| .slot rfl (.refl _) <| .mem rfl <| .mem rfl <| .mem rfl <| .mem rfl <| .mem rfl <| .mem rfl <| .mem rfl <| .mem rfl <| .mem rfl <| .mem rfl <| .mem rfl <| .mem rfl <| .mem rfl <| .mem rfl <| .mem rfl <| .nil
      ·refine .inr (TrI.sem rfl (OpSem.fieldr rfl rfl fo117_2) rfl rfl (by decide) rfl ?_)
       refine TrSet.succ ⟨?_, trivial⟩
       ·refine .inr (TrI.sem rfl (OpSem.loadb1 rfl rfl rfl vs108 rfl) rfl rfl (by decide) rfl ?_)
        refine TrSet.zero ?_
        refine TrOps.ofSt0' (OpSt.putO (h := 60) (l := (bkM y)) (n := ((toW t (nth l i) (nth (opL t (nth l i)) k)) : Int)) (v := slc b2 (((bkA y (toW t (nth l i) (nth (opL t (nth l i)) k))).map bkRow).length + 1) cap2) (F' := oneO bb (.m (bkM (bkUp y (bkE y (toW t (nth l i) (nth (opL t (nth l i)) k)) b2 cap2 tl2 (nth l i) (nth t.ops ((nth (opL t (nth l i)) k : Nat) : Int)).cost))))) (.inl rfl) rfl rfl rfl (fun H => rfl) oneO_s mt108 iu72 bkE_put) rfl rfl rfl ?_
        refine TrOps.nil ?_
        refine At.block_normal ?_
        refine At.endR (bkUp y (bkE y (toW t (nth l i) (nth (opL t (nth l i)) k)) b2 cap2 tl2 (nth l i) (nth t.ops ((nth (opL t (nth l i)) k : Nat) : Int)).cost)) (hp.add hok2 rfl rfl) ?_
        exact .slot rfl (.refl _) <| .slot rfl (.refl _) <| .slot rfl (.refl _) <| .slot rfl (.refl _) <| .slot rfl (.refl _) <| .slot rfl (.refl _) <| .slot rfl (.refl _) <| .slot rfl (.refl _) <| .mem rfl <| .mem rfl <| .mem rfl <| .mem rfl <| .mem rfl <| .mem rfl <| .mem rfl <| .mem rfl <| .mem rfl <| .mem rfl <| .mem rfl <| .mem rfl <| .mem rfl <| .mem rfl <| .mem rfl <| .nil
     ·refine ⟨[39, 40, 41], _, by kernel_rfl, by repeat' (first | exact .nil | (apply DropRs.hit; rfl) | (apply DropRs.miss; rfl)), ?_⟩
      refine TrOps.splitO (F1 := bkF 120 (bkX y (toW t (nth l i) (nth (opL t (nth l i)) k)))) (G := plMe 120 (bkP y (toW t (nth l i) (nth (opL t (nth l i)) k))) ((bkA y (toW t (nth l i) (nth (opL t (nth l i)) k))).map bkRow).flatten) 61 66 rfl (by decide) (bk_split hp.ok) (bk_own hp.ok) ?_
      refine TrOps.appendO (h := 66) (p := (bkP y (toW t (nth l i) (nth (opL t (nth l i)) k)))) (rows := ((bkA y (toW t (nth l i) (nth (opL t (nth l i)) k))).map bkRow)) (r := [.int .u32 ((((nth l i) : Nat) : Int)), .int .i64 ((nth t.ops ((nth (opL t (nth l i)) k : Nat) : Int)).cost)]) rfl rfl rfl (by decide) rfl rfl rfl es118 el118 zc120 rfl by120 bk_rows rfl (by simp [Value.oneCell']) (by simp [maxLen]; omega) (by simp; omega) (bkP_ok2 hp.ok) (fun b2 cap2 tl2 hp2 => ?_)
      refine TrOps.poEq 66 rfl (bkE_c (T := 120) (L := y) (to := (toW t (nth l i) (nth (opL t (nth l i)) k))) (b := b2) (cap := cap2) (tl := tl2) (s := (nth l i)) (c := (nth t.ops ((nth (opL t (nth l i)) k : Nat) : Int)).cost)) ?_
      refine TrOps.joinO 61 66 rfl rfl (by decide) (fun hap => ?_)
      obtain ⟨hok2, hF2⟩ := bk_join hp.ok (e := (bkE y (toW t (nth l i) (nth (opL t (nth l i)) k)) b2 cap2 tl2 (nth l i) (nth t.ops ((nth (opL t (nth l i)) k : Nat) : Int)).cost)) (bkE_p hp2) hap
      refine TrOps.poEq 61 rfl hF2 ?_
      refine TrSet.start ?_
      refine TrSet.succ ⟨?_, ?_, ?_, trivial⟩
      ·refine .inr (TrI.sem rfl (OpSem.loadb1 rfl rfl rfl vs108 rfl) rfl rfl (by decide) rfl ?_)
       refine TrSet.succ ⟨?_, ?_, trivial⟩
       ·refine .inr (TrI.sem rfl (OpSem.fieldr rfl rfl fo117_2) rfl rfl (by decide) rfl ?_)
        refine TrSet.succ ⟨?_, trivial⟩
        ·refine .inr (TrI.sem rfl (OpSem.loadb1 rfl rfl rfl vs72 rfl) rfl rfl (by decide) rfl ?_)
         refine TrSet.zero ?_
         refine TrOps.ofSt0' (OpSt.putO (h := 60) (l := (bkM y)) (n := ((toW t (nth l i) (nth (opL t (nth l i)) k)) : Int)) (v := slc b2 (((bkA y (toW t (nth l i) (nth (opL t (nth l i)) k))).map bkRow).length + 1) cap2) (F' := oneO bb (.m (bkM (bkUp y (bkE y (toW t (nth l i) (nth (opL t (nth l i)) k)) b2 cap2 tl2 (nth l i) (nth t.ops ((nth (opL t (nth l i)) k : Nat) : Int)).cost))))) (.inl rfl) rfl rfl rfl (fun H => rfl) oneO_s mt108 iu72 bkE_put) rfl rfl rfl ?_
         refine TrOps.nil ?_
         refine At.block_normal ?_
         refine At.endR (bkUp y (bkE y (toW t (nth l i) (nth (opL t (nth l i)) k)) b2 cap2 tl2 (nth l i) (nth t.ops ((nth (opL t (nth l i)) k : Nat) : Int)).cost)) (hp.add hok2 rfl rfl) ?_
         exact .slot rfl (.refl _) <| .slot rfl (.refl _) <| .slot rfl (.refl _) <| .slot rfl (.refl _) <| .slot rfl (.refl _) <| .slot rfl (.refl _) <| .slot rfl (.refl _) <| .slot rfl (.refl _) <| .mem rfl <| .mem rfl <| .mem rfl <| .mem rfl <| .mem rfl <| .mem rfl <| .mem rfl <| .mem rfl <| .mem rfl <| .mem rfl <| .mem rfl <| .mem rfl <| .mem rfl <| .mem rfl <| .mem rfl <| .nil
       ·exact .inl (by kernel_rfl)
      ·refine .inr (TrI.sem rfl (OpSem.fieldr rfl rfl fo117_2) rfl rfl (by decide) rfl ?_)
       refine TrSet.succ ⟨?_, ?_, trivial⟩
       ·refine .inr (TrI.sem rfl (OpSem.loadb1 rfl rfl rfl vs108 rfl) rfl rfl (by decide) rfl ?_)
        refine TrSet.succ ⟨?_, trivial⟩
        ·refine .inr (TrI.sem rfl (OpSem.loadb1 rfl rfl rfl vs72 rfl) rfl rfl (by decide) rfl ?_)
         refine TrSet.zero ?_
         refine TrOps.ofSt0' (OpSt.putO (h := 60) (l := (bkM y)) (n := ((toW t (nth l i) (nth (opL t (nth l i)) k)) : Int)) (v := slc b2 (((bkA y (toW t (nth l i) (nth (opL t (nth l i)) k))).map bkRow).length + 1) cap2) (F' := oneO bb (.m (bkM (bkUp y (bkE y (toW t (nth l i) (nth (opL t (nth l i)) k)) b2 cap2 tl2 (nth l i) (nth t.ops ((nth (opL t (nth l i)) k : Nat) : Int)).cost))))) (.inl rfl) rfl rfl rfl (fun H => rfl) oneO_s mt108 iu72 bkE_put) rfl rfl rfl ?_
         refine TrOps.nil ?_
         refine At.block_normal ?_
         refine At.endR (bkUp y (bkE y (toW t (nth l i) (nth (opL t (nth l i)) k)) b2 cap2 tl2 (nth l i) (nth t.ops ((nth (opL t (nth l i)) k : Nat) : Int)).cost)) (hp.add hok2 rfl rfl) ?_
         exact .slot rfl (.refl _) <| .slot rfl (.refl _) <| .slot rfl (.refl _) <| .slot rfl (.refl _) <| .slot rfl (.refl _) <| .slot rfl (.refl _) <| .slot rfl (.refl _) <| .slot rfl (.refl _) <| .mem rfl <| .mem rfl <| .mem rfl <| .mem rfl <| .mem rfl <| .mem rfl <| .mem rfl <| .mem rfl <| .mem rfl <| .mem rfl <| .mem rfl <| .mem rfl <| .mem rfl <| .mem rfl <| .mem rfl <| .nil
       ·refine .inr (TrI.sem rfl (OpSem.loadb1 rfl rfl rfl vs72 rfl) rfl rfl (by decide) rfl ?_)
        refine TrSet.succ ⟨?_, trivial⟩
        ·refine .inr (TrI.sem rfl (OpSem.loadb1 rfl rfl rfl vs108 rfl) rfl rfl (by decide) rfl ?_)
         refine TrSet.zero ?_
         refine TrOps.ofSt0' (OpSt.putO (h := 60) (l := (bkM y)) (n := ((toW t (nth l i) (nth (opL t (nth l i)) k)) : Int)) (v := slc b2 (((bkA y (toW t (nth l i) (nth (opL t (nth l i)) k))).map bkRow).length + 1) cap2) (F' := oneO bb (.m (bkM (bkUp y (bkE y (toW t (nth l i) (nth (opL t (nth l i)) k)) b2 cap2 tl2 (nth l i) (nth t.ops ((nth (opL t (nth l i)) k : Nat) : Int)).cost))))) (.inl rfl) rfl rfl rfl (fun H => rfl) oneO_s mt108 iu72 bkE_put) rfl rfl rfl ?_
         refine TrOps.nil ?_
         refine At.block_normal ?_
         refine At.endR (bkUp y (bkE y (toW t (nth l i) (nth (opL t (nth l i)) k)) b2 cap2 tl2 (nth l i) (nth t.ops ((nth (opL t (nth l i)) k : Nat) : Int)).cost)) (hp.add hok2 rfl rfl) ?_
         exact .slot rfl (.refl _) <| .slot rfl (.refl _) <| .slot rfl (.refl _) <| .slot rfl (.refl _) <| .slot rfl (.refl _) <| .slot rfl (.refl _) <| .slot rfl (.refl _) <| .slot rfl (.refl _) <| .mem rfl <| .mem rfl <| .mem rfl <| .mem rfl <| .mem rfl <| .mem rfl <| .mem rfl <| .mem rfl <| .mem rfl <| .mem rfl <| .mem rfl <| .mem rfl <| .mem rfl <| .mem rfl <| .mem rfl <| .nil
      ·exact .inl (by kernel_rfl)
    ·rintro y ds2 hp
     refine AtD.block_normal ?_
     refine AtD.block_normal ?_
     refine AtD.seq ?_
     refine TrD.region ?_
     refine TrOps.sem (OpSem.bin rfl rfl rfl (badd (by first | omega | (simp only []; omega)) (by first | omega | (simp only []; omega)))) rfl rfl (by decide) ?_
     refine TrOps.sem (OpSem.move (.inl rfl) rfl) rfl rfl (by decide) ?_
     refine TrOps.nil ?_
     refine AtD.again ⟨i + 1, y, (wUp Lo (nth l i) 1000000000), p, A, m, tm⟩ ⟨by simp; omega, hp.nx hi hop, hS.no hi hg, hQ⟩ ?_ (by simp; omega)
     exact .slot rfl (.refl _) <| .slot rfl (.refl _) <| .slot rfl (.refl _) <| .slot rfl (.refl _) <| .slot rfl (.refl _) <| .slot rfl (.refl _) <| .slot rfl (Le.of_eq (by simp)) <| .mem rfl <| .mem rfl <| .mem rfl <| .mem rfl <| .mem rfl <| .mem rfl <| .mem rfl <| .mem rfl <| .mem rfl <| .mem rfl <| .mem rfl <| .mem rfl <| .nil
  ·have hi : i = l.length := by simp at c22; omega
   subst hi
   rw [List.take_length] at hB
   refine TrD.exit ?_
   refine AtD.pass_exit ?_
   refine AtD.pass_exit ?_
   refine AtD.block_same ?_
   refine AtD.seq ?_
   refine TrD.seq ?_
   refine TrD.block ?_
   refine TrD.loop (Oc := Oc) (W := W) (X := CoX) (fun x => CoM t l x.o x.p x.A x.m) (fun x => [(5, .r 5 0), (6, .d (.v (.map (some bo)))), (7, .d (.v (ptr q 0)))]) (fun x => [(60, poM (oneO bb (.m (bkM Lb)))), (0, poM (oneO bo (.m (wMp x.o)))), (62, poM (oneO q (.c Tq [plV x.p x.A.length, .map (some bq), .int .i64 (x.tm)]))), (63, poM (plMe 160 x.p (arrV x.A))), (64, poM (enF x.A)), (65, poM (oneO bq (.m x.m))), (61, poM (bkF 120 Lb)), (5, .box [.d (.v (.map (some bb)))]), (999, .any (restK Oc W)), (1000, .fr (frK Oc W)), (1001, .fr (dsS [(ptr bw ow, .p [.v (.int .u32 (wdF t.ini : Int)), .v (.int .u32 (wdF t.goal : Int)), .v sv]), (sv, .d (mssD t.ops)), (lv, .d (wrdL l))]))]) (fun x => muW l x.o x.A) ⟨0, [], Lo, p, A, m, tm⟩ ⟨hS.fin rfl, hQ⟩ ?_ ?_
   ·exact .slot rfl (.refl _) <| .slot rfl (.refl _) <| .slot rfl (.refl _) <| .mem rfl <| .mem rfl <| .mem rfl <| .mem rfl <| .mem rfl <| .mem rfl <| .mem rfl <| .mem rfl <| .mem rfl <| .mem rfl <| .mem rfl <| .mem rfl <| .nil
   ·rintro ⟨_, _, Lo, p, A, m, tm⟩ ds hM
    simp only [] at hM
    refine TrD.seq ?_
    refine TrD.seq ?_
    refine TrD.region ?_
    refine TrOps.sem (OpSem.move (.inl rfl) rfl) rfl rfl (by decide) ?_
    refine TrOps.callM (hs := [62, 63, 64, 65]) (kd := 5054) (F := qF q Tq bq (tm) p A m) (openlist_Queue_uint32_Len_M hM.q.p.e) rfl rfl rfl (by decide) rfl rfl (fun H => rfl) rfl (by decide) (by decide) (.cons rfl <| .cons rfl <| .cons rfl <| .cons rfl <| .nil) .nil ?_ (by decide)
    rintro _ _ _ ⟨rfl, rfl, rfl⟩
    refine TrOps.sem (OpSem.bin rfl rfl rfl bgtr) rfl rfl (by decide) ?_
    refine TrOps.nil ?_
    refine AtD.seq ?_
    refine TrD.cond rfl (fun c55 => ?_) (fun c55 => ?_)
    ·have h0 : A.length ≠ 0 := fun e => by simp [e] at c55
     have hAl := hM.len
     refine TrD.skip ?_
     refine AtD.seq ?_
     refine TrD.block ?_
     refine TrD.seq ?_
     refine TrD.region ?_
     refine TrOps.sem (OpSem.move (.inl rfl) rfl) rfl rfl (by decide) ?_
     refine TrOps.callM (hs := [62, 63, 64, 65]) (kd := 5058) (F := qF q Tq bq (tm) p A m) (openlist_Queue_uint32_Take_M hM.q h0 (by omega)) rfl rfl rfl (by decide) rfl rfl (fun H => rfl) rfl (by decide) (by decide) (.cons rfl <| .cons rfl <| .cons rfl <| .cons rfl <| .nil) .nil ?_ (by decide)
     rintro _ _ _ ⟨p1, A1, m1, xq, rfl, rfl, rfl, hQ1, hD1⟩
     refine TrOps.asT 58 (vs := [u32 xq.item, .int .i64 xq.key, .bool true]) rfl ?_
     have hL := hM.take (W := bkA Lb xq.item) hQ1 hD1
     refine TrOps.sem (OpSem.move (.inl rfl) rfl) rfl rfl (by decide) ?_
     refine TrOps.sem (OpSem.extract rfl rfl rfl) rfl rfl (by decide) ?_
     refine TrOps.sem (OpSem.extract rfl rfl rfl) rfl rfl (by decide) ?_
     refine TrOps.sem (OpSem.extract rfl rfl rfl) rfl rfl (by decide) ?_
     refine TrOps.sem (OpSem.move (.inr rfl) rfl) rfl rfl (by decide) ?_
     refine TrOps.sem (OpSem.move (.inr rfl) rfl) rfl rfl (by decide) ?_
     refine TrOps.sem (OpSem.move (.inr rfl) rfl) rfl rfl (by decide) ?_
     refine TrOps.nil ?_
     refine AtD.seq ?_
     refine TrD.seq ?_
     refine TrD.region ?_
     refine TrOps.sem (OpSem.loadb1 rfl rfl rfl vs108 rfl) rfl rfl (by decide) ?_
     refine TrOps.sem (OpSem.move (.inl rfl) rfl) rfl rfl (by decide) ?_
     refine TrOps.sem (OpSem.lookO (h := 60) (l := bkM Lb) (n := (xq.item : Nat)) (v := plV (bkP Lb xq.item) (((bkA Lb xq.item).map bkRow).length)) rfl rfl rfl rfl oneO_s mt108 iu72 zw118 bk_look2) rfl rfl (by decide) ?_
     refine TrOps.sem (OpSem.lenPl rfl rfl es118 (bkP_ok2 hB.ok).e) rfl rfl (by decide) ?_
     refine TrOps.sem (OpSem.move (.inl rfl) rfl) rfl rfl (by decide) ?_
     refine TrOps.nil ?_
     refine AtD.seq ?_
     refine TrD.block ?_
     refine TrD.loop (Oc := Oc) (W := W) (X := CoX) (fun x => x.k ≤ (bkA Lb xq.item).length ∧ CoL t l (bkA Lb xq.item) xq.item xq.key (muW l Lo A) x.k x.o x.p x.A x.m) (fun x => [(5, .r 5 0), (6, .d (.v (.map (some bo)))), (7, .d (.v (ptr q 0))), (12, I (xq.key)), (64, .d (.v (plV (bkP Lb xq.item) (((bkA Lb xq.item).map bkRow).length)))), (65, I ((((bkA Lb xq.item).map bkRow).length : Nat))), (66, I (x.k))]) (fun x => [(60, poM (oneO bb (.m (bkM Lb)))), (0, poM (oneO bo (.m (wMp x.o)))), (62, poM (oneO q (.c Tq [plV x.p x.A.length, .map (some bq), .int .i64 (x.tm)]))), (63, poM (plMe 160 x.p (arrV x.A))), (64, poM (enF x.A)), (65, poM (oneO bq (.m x.m))), (61, poM (bkF 120 Lb)), (5, .box [.d (.v (.map (some bb)))]), (999, .any (restK Oc W)), (1000, .fr (frK Oc W)), (1001, .fr (dsS [(ptr bw ow, .p [.v (.int .u32 (wdF t.ini : Int)), .v (.int .u32 (wdF t.goal : Int)), .v sv]), (sv, .d (mssD t.ops)), (lv, .d (wrdL l))]))]) (fun x => (bkA Lb xq.item).length - x.k) ⟨0, [], Lo, p1, A1, m1, tm⟩ ⟨Nat.zero_le _, hL⟩ ?_ ?_
     ·exact .slot rfl (.refl _) <| .slot rfl (.refl _) <| .slot rfl (.refl _) <| .slot rfl (.refl _) <| .slot rfl (.refl _) <| .slot rfl (.refl _) <| .slot rfl (Le.of_eq (by simp)) <| .mem rfl <| .mem rfl <| .mem rfl <| .mem rfl <| .mem rfl <| .mem rfl <| .mem rfl <| .mem rfl <| .mem rfl <| .mem rfl <| .mem rfl <| .mem rfl <| .nil
     ·rintro ⟨j, _, Lo2, p2, A2, m2, tm2⟩ ds ⟨hj, hC⟩
      simp only [] at hj hC
      refine TrD.seq ?_
      refine TrD.region ?_
      refine TrOps.sem (OpSem.bin rfl rfl rfl blss) rfl rfl (by decide) ?_
      refine TrOps.nil ?_
      refine AtD.seq ?_
      refine TrD.seq ?_
      refine TrD.cond rfl (fun c67 => ?_) (fun c67 => ?_)
      ·have hjl : j < (bkA Lb xq.item).length := by simpa using c67
       obtain ⟨b, cap, tl, hpb⟩ := (bkP_ok2 hB.ok (k := xq.item)).some (by rw [List.length_map]; omega)
       refine TrD.eqV 64 rfl (show plV (bkP Lb xq.item) ((bkA Lb xq.item).map bkRow).length = slc b ((bkA Lb xq.item).map bkRow).length cap by rw [hpb]; rfl) ?_
       obtain ⟨ha1, ha2⟩ := hB.arc hjl
       obtain ⟨hc0, hc1⟩ := ha2.cost hV
       have hbn := hB.n xq.item
       obtain ⟨_, hd0, hd1, _⟩ := hC.j.sd
       refine TrD.skip ?_
       refine AtD.seq ?_
       refine TrD.seq ?_
       refine TrD.block ?_
       refine TrD.seq ?_
       refine TrD.region ?_
       refine TrOps.sem (OpSem.idxO rfl rfl rfl es118 (by first | omega | (simp; done) | (simp; omega)) (by first | omega | (simp; done) | (simp; omega))) rfl rfl (by decide) ?_
       refine TrOps.sem (OpSem.loadON (h := 61) (vs := bkRow (nth (bkA Lb xq.item) j)) rfl rfl rfl vs120 (bk_blk hB.ok hpb) (bk_cell hjl) (by simp [Value.oneCell'])) rfl rfl (by decide) ?_
       refine TrOps.semM (OpSem.alloc 15 rfl zc120 rfl) rfl rfl (by decide) ?_
       refine TrOps.storeb rfl rfl rfl rfl rfl rfl rfl vs120 (by first | decide | simp) ?_
       refine TrOps.nil ?_
       refine AtD.seq ?_
       refine TrD.seq ?_
       refine TrD.region ?_
       refine TrOps.sem (OpSem.move (.inl rfl) rfl) rfl rfl (by decide) ?_
       refine TrOps.sem (OpSem.fieldr rfl rfl fo120_1) rfl rfl (by decide) ?_
       refine TrOps.sem (OpSem.loadb1 rfl rfl rfl vs3 rfl) rfl rfl (by decide) ?_
       refine TrOps.sem (OpSem.bin rfl rfl rfl (badd (by omega) (by omega))) rfl rfl (by decide) ?_
       refine TrOps.sem (OpSem.move (.inl rfl) rfl) rfl rfl (by decide) ?_
       refine TrOps.sem (OpSem.fieldr rfl rfl fo120_0) rfl rfl (by decide) ?_
       refine TrOps.sem (OpSem.loadb1 rfl rfl rfl vs72 rfl) rfl rfl (by decide) ?_
       refine TrOps.sem (OpSem.lookO (h := 0) (l := wMp Lo2) (n := ((nth (bkA Lb xq.item) j).1 : Int)) (v := .int .i64 (wF Lo2 (nth (bkA Lb xq.item) j).1)) rfl rfl rfl rfl oneO_s mt70 iu72 zw3 look_v) rfl rfl (by decide) ?_
       refine TrOps.sem (OpSem.bin rfl rfl rfl blss) rfl rfl (by decide) ?_
       refine TrOps.nil ?_
       refine AtD.seq ?_
       refine TrD.cond rfl (fun c78 => ?_) (fun c78 => ?_)
       ·have hlt : xq.key + (nth (bkA Lb xq.item) j).2 < wF Lo2 (nth (bkA Lb xq.item) j).1 := by simpa using c78
        refine TrD.seq ?_
        refine TrD.region ?_
        refine TrOps.sem (OpSem.move (.inl rfl) rfl) rfl rfl (by decide) ?_
        refine TrOps.sem (OpSem.fieldr rfl rfl fo120_0) rfl rfl (by decide) ?_
        refine TrOps.sem (OpSem.loadb1 rfl rfl rfl vs72 rfl) rfl rfl (by decide) ?_
        refine TrOps.sem (OpSem.move (.inl rfl) rfl) rfl rfl (by decide) ?_
        refine TrOps.sem (OpSem.fieldr rfl rfl fo120_1) rfl rfl (by decide) ?_
        refine TrOps.sem (OpSem.loadb1 rfl rfl rfl vs3 rfl) rfl rfl (by decide) ?_
        refine TrOps.sem (OpSem.bin rfl rfl rfl (badd (by omega) (by omega))) rfl rfl (by decide) ?_
        refine TrOps.ofSt0' (OpSt.putO (h := 0) (l := (wMp Lo2)) (n := ((nth (bkA Lb xq.item) j).1 : Int)) (v := .int .i64 (xq.key + (nth (bkA Lb xq.item) j).2)) (F' := oneO bo (.m (wMp (wUp Lo2 (nth (bkA Lb xq.item) j).1 (xq.key + (nth (bkA Lb xq.item) j).2))))) (.inl rfl) rfl rfl rfl (fun H => rfl) oneO_s mt70 iu72 bk_put2) rfl rfl rfl ?_
        refine TrOps.nil ?_
        refine AtD.seq ?_
        refine TrD.region ?_
        refine TrOps.sem (OpSem.move (.inl rfl) rfl) rfl rfl (by decide) ?_
        refine TrOps.sem (OpSem.fieldr rfl rfl fo120_0) rfl rfl (by decide) ?_
        refine TrOps.sem (OpSem.loadb1 rfl rfl rfl vs72 rfl) rfl rfl (by decide) ?_
        refine TrOps.sem (OpSem.move (.inl rfl) rfl) rfl rfl (by decide) ?_
        refine TrOps.sem (OpSem.fieldr rfl rfl fo120_1) rfl rfl (by decide) ?_
        refine TrOps.sem (OpSem.loadb1 rfl rfl rfl vs3 rfl) rfl rfl (by decide) ?_
        refine TrOps.sem (OpSem.bin rfl rfl rfl (badd (by omega) (by omega))) rfl rfl (by decide) ?_
        refine TrOps.callM (hs := [62, 63, 64, 65]) (kd := 5093) (F := qF q Tq bq (tm2) p2 A2 m2) (openlist_Queue_uint32_Set_M (item := (nth (bkA Lb xq.item) j).1) (key := xq.key + (nth (bkA Lb xq.item) j).2) hC.q (by have := hC.len; omega)) rfl rfl rfl (by decide) rfl rfl (fun H => rfl) rfl (by decide) (by decide) (.cons rfl <| .cons rfl <| .cons rfl <| .cons rfl <| .nil) .nil ?_ (by decide)
        rintro _ _ _ ⟨p3, A3, m3, rfl, rfl, rfl, hQ3, hU3⟩
        refine TrOps.nil ?_
        refine AtD.block_normal ?_
        refine AtD.seq ?_
        refine TrD.region ?_
        refine TrOps.sem (OpSem.bin rfl rfl rfl (badd (by first | omega | (simp only []; omega)) (by first | omega | (simp only []; omega)))) rfl rfl (by decide) ?_
        refine TrOps.sem (OpSem.move (.inl rfl) rfl) rfl rfl (by decide) ?_
        refine TrOps.nil ?_
        refine AtD.again ⟨j + 1, [], wUp Lo2 (nth (bkA Lb xq.item) j).1 (xq.key + (nth (bkA Lb xq.item) j).2), p3, A3, m3, IntKind.i64.wrap (tm2 + 1)⟩ ⟨by simp; omega, hC.set ha1 ha2 hc0 hlt hQ3 hU3⟩ ?_ (by simp; omega)
        exact .slot rfl (.refl _) <| .slot rfl (.refl _) <| .slot rfl (.refl _) <| .slot rfl (.refl _) <| .slot rfl (Le.of_eq (by rw [hpb] <;> rfl)) <| .slot rfl (.refl _) <| .slot rfl (Le.of_eq (by simp)) <| .mem rfl <| .mem rfl <| .mem rfl <| .mem rfl <| .mem rfl <| .mem rfl <| .mem rfl <| .mem rfl <| .mem rfl <| .mem rfl <| .mem rfl <| .mem rfl <| .nil
       ·have hle : wF Lo2 (nth (bkA Lb xq.item) j).1 ≤ xq.key + (nth (bkA Lb xq.item) j).2 := by simp at c78; omega
        refine TrD.skip ?_
        refine AtD.block_normal ?_
        refine AtD.seq ?_
        refine TrD.region ?_
        refine TrOps.sem (OpSem.bin rfl rfl rfl (badd (by first | omega | (simp only []; omega)) (by first | omega | (simp only []; omega)))) rfl rfl (by decide) ?_
        refine TrOps.sem (OpSem.move (.inl rfl) rfl) rfl rfl (by decide) ?_
        refine TrOps.nil ?_
        refine AtD.again ⟨j + 1, [], Lo2, p2, A2, m2, tm2⟩ ⟨by simp; omega, hC.skip hle⟩ ?_ (by simp; omega)
        exact .slot rfl (.refl _) <| .slot rfl (.refl _) <| .slot rfl (.refl _) <| .slot rfl (.refl _) <| .slot rfl (Le.of_eq (by rw [hpb] <;> rfl)) <| .slot rfl (.refl _) <| .slot rfl (Le.of_eq (by simp)) <| .mem rfl <| .mem rfl <| .mem rfl <| .mem rfl <| .mem rfl <| .mem rfl <| .mem rfl <| .mem rfl <| .mem rfl <| .mem rfl <| .mem rfl <| .mem rfl <| .nil
      ·have hj2 : j = (bkA Lb xq.item).length := by (have h := of_decide_eq_false c67; simp only [List.length_map] at h; omega)
       refine TrD.exit ?_
       refine AtD.pass_exit ?_
       refine AtD.pass_exit ?_
       refine AtD.block_same ?_
       refine AtD.block_normal ?_
       refine AtD.again ⟨0, [], Lo2, p2, A2, m2, tm2⟩ (hC.fin hj2 hB) ?_ hC.u
       exact .slot rfl (.refl _) <| .slot rfl (.refl _) <| .slot rfl (.refl _) <| .mem rfl <| .mem rfl <| .mem rfl <| .mem rfl <| .mem rfl <| .mem rfl <| .mem rfl <| .mem rfl <| .mem rfl <| .mem rfl <| .mem rfl <| .mem rfl <| .nil
    ·have h0 : A = [] := List.eq_nil_of_length_eq_zero (by have h := of_decide_eq_false c55; omega)
     refine TrD.exit ?_
     refine AtD.pass_exit ?_
     refine AtD.pass_exit ?_
     refine AtD.block_same ?_
     refine AtD.seq ?_
     refine TrD.seq ?_
     refine TrD.region ?_
     refine TrOps.sem (OpSem.move (.inl rfl) rfl) rfl rfl (by decide) ?_
     refine TrOps.sem (OpSem.move (.inr rfl) rfl) rfl rfl (by decide) ?_
     refine TrOps.nil ?_
     refine AtD.seq ?_
     refine TrD.ret ?_
     exact AtD.retM (F' := fo [oneO bo (.m (wMp Lo))]) (ds' := []) (v := .map (some bo)) (.inl rfl) rfl (.tmp rfl <| .nil) (fun H => rfl) (.cons rfl <| .nil) .nil rfl rfl rfl (⟨bo, Lo, rfl, rfl, rfl, hM.i.fin hV (by subst h0; rintro s k ⟨x, h, _⟩; cases h)⟩)
end Go.Proofs.YtgophedpkiidkaaGreat
end
