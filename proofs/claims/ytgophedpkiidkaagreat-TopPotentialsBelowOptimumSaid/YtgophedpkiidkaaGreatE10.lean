/- Part 10. -/
import Derived.Test.YtgophedpkiidkaaGreatE9
set_option linter.unusedSimpArgs false
set_option linter.unnecessarySimpa false
set_option linter.unusedVariables false
set_option linter.unusedSectionVars false
section
namespace Go.Eng
theorem look_s {k : Nat} {L : List (Nat × Int)} : (lookI (wMp L) (k : Int)).isSome = (wAt L k).isSome := by rw [lookI_v]; cases wAt L k <;> rfl
def mapY (l : List (Int × Value)) : Kr := {
 q := fun O w x => ∃ b, x = .map (some b) ∧ O b = 0 ∧ (OB.m l).at w b
 mono := by
  rintro O w O' w' x hk ⟨b, rfl, h1, h2⟩
  obtain ⟨k1, k2⟩ := hk b (OB.lt h2) h1
  exact ⟨b, rfl, k1, OB.mono h2 k2⟩ }
def capY (l : List (Int × Value)) : Kr := {
 q := fun O w x => ∃ c off b, x = ptr c off ∧ O c = 0 ∧ w.cell? ⟨c, off, none⟩ = some (.map (some b)) ∧ O b = 0 ∧ (OB.m l).at w b
 mono := by
  rintro O w O' w' x hk ⟨c, off, b, rfl, h1, h2, h3, h4⟩
  obtain ⟨k1, k2⟩ := hk b (OB.lt h4) h3
  have hc := hk.cell (a := ⟨c, off, none⟩) h1 h2
  refine ⟨c, off, b, rfl, ?_, hc, k1, OB.mono h4 k2⟩
  by_cases hlt : c < w.heap.size
  ·exact (hk c hlt h1).1
  ·exfalso
   simp [World.cell?, Array.getElem?_eq_none (by omega : w.heap.size ≤ c)] at h2 }
section
variable {P : Program} {N : Nat} {w0 : World} {O0 : Nat → Nat} {ops : Array Oper} {Q : Post} {e : Env} {M : Mem} {rest : List Oper} {B : Nat} {o : Oper} {s : S} {c : Code}
theorem rep_a {O : Nat → Nat} {H : Nat → Value} {w : World} {x : Value} {K : Kr} (h : RepS O H w x (.a K)) : K.q O w x := by
 cases h with
 | a _ _ h => exact h
theorem OpSem.loadCapY {t : TypeId} {x : Operand} {l : List (Int × Value)} (ho : o.op = .load t x) (hx : opS e x = some (.a (capY l))) (ht : vsz P t = some (false, 1)) : OpSem P B o e M (.a (mapY l)) none :=
 .value fun O H a w hs hm => by
  obtain ⟨c, off, b, hr, h1, h2, h3, h4⟩ := rep_a (hs x (by simp [ho, Op.operands]) _ hx)
  exact ⟨.map (some b), by simp [execOp, ho, Instr.loadAt, Instr.sureAddr, hr, run_loadVar1 ht h2], .a _ _ ⟨b, rfl, h3, h4⟩⟩
theorem OpSem.lookA2 {mt kt et : Nat} {m k : Operand} {l : List (Int × Value)} {n : Int} {z v : Value} {f : Bool} (ho : o.op = .lookup mt m k true) (hx : opS e m = some (.a (mapY l))) (hk : opS e k = some (.d (.v (u32 n))))
  (hu : P.underlying mt = some (.map kt et)) (hi : intU P kt = true) (hz : (P.info? et).bind (·.zero) = some z) (hv : (lookI l n).getD z = v) (hf : (lookI l n).isSome = f) : OpSem P B o e M (.t [.d (.v v), .d (.v (.bool f))]) none :=
 .value fun O H a w hs hm => by
  obtain ⟨b, hr, h1, h2⟩ := rep_a (hs m (by simp [ho, Op.operands]) _ hx)
  have hk' := rep_v (hs k (by simp [ho, Op.operands]) _ hk)
  have := run_lookO (ok := true) (n := n) hu hi hz h2
  rw [hv, hf] at this
  refine ⟨.tuple #[v, .bool f], by simp [execOp, ho, hr, hk', this], .t [v, .bool f] _ rfl fun i x s hx hs => ?_⟩
  rcases i with _ | _ | i <;> simp at hx hs <;> subst hx <;> subst hs <;> exact .d _ _ (.v _)
theorem OpSem.callZ {g : Operand} {as_ : Array Operand} {ts : Array TypeId} {fn : Nat} {caps vs : List Value} {l args : List S} {res : S} {fr : Bool} {v0 : Value} (hspec : Does P fr fn args res)
  (hz : valS zH 9 res = some v0) (hl : (vs ++ caps).length = args.length) (hrep : ∀ (O : Nat → Nat) (H : Nat → Value) (w : World), Mems O H B w M → ∀ (i : Nat) (x : Value) (s : S), (vs ++ caps)[i]? = some x → args[i]? = some s → RepS zO zH w x s)
  (ho : o.op = .call { callee := .value g, args := as_, argTypes := ts }) (hg : opS e g = some (.d (.v (.func (.func fn) #[] caps.toArray)))) (ha : opsS e as_.toList = some l) (hv : ∀ H, l.mapM (valS H 9) = some vs) : OpSem P B o e M (.d (.v v0)) none := by
 intro O H a w hB hs hm K hK
 have hg' := rep_v (hs g (by simp [ho, Op.operands, Call.operands]) _ hg)
 have hargs := argsEq (a := a) (O := O) (H := H) (w := w) (as_ := as_) (fun x hx s hs' => hs x (by simp only [ho, Op.operands, Call.operands]; simpa using .inr (by simpa using hx)) s hs') ha (hv H)
 have hrun := run_call (o := o) (xs := []) hspec.can a w g as_ ts ho (by rw [hg']) hargs
 unfold Oper.wp
 rw [hrun]
 refine (hspec.run zO w _ (by simpa using hl) (fun i x s hi hs' => hrep O H w hm i x s (by simpa using hi) hs')).mono ?_
 rintro en w' ⟨x, rfl, hb, hr⟩
 refine hK (ext O w.heap.size) H w' x (Keep.ext hb) hb ?_ (fun _ _ h => by cases h)
 rw [valS_rep 9 hr hz]
 exact .d _ _ (.v _)
end
end Go.Eng
end

section
namespace Go.Eng
abbrev twT : Tsk := ⟨2, [], [1], [⟨[], [0], [], 2⟩, ⟨[0], [1], [], 3⟩]⟩
theorem twT_f : tskF twT = (0, 0) := by decide +kernel
theorem twT_v : TskV twT := tskF_v twT_f
theorem tw_two {i : Nat} (hi : i < twT.ops.length) : i = 0 ∨ i = 1 := by have hi : i < 2 := hi; omega
theorem tw_ok : (okW twT 0 0 ∧ ¬ okW twT 0 1) ∧ (okW twT 1 0 ∧ okW twT 1 1) ∧ (okW twT 3 0 ∧ okW twT 3 1) := by
 refine ⟨⟨?_, ?_⟩, ⟨?_, ?_⟩, ?_, ?_⟩ <;> (unfold okW; decide +kernel)
theorem tw_to : toW twT 0 0 = 1 ∧ toW twT 1 0 = 1 ∧ toW twT 1 1 = 3 ∧ toW twT 3 0 = 3 ∧ toW twT 3 1 = 3 := by decide +kernel
theorem tw_in : wdF twT.ini = 0 := by decide +kernel
theorem tw_A : AlW twT [0, 1, 3] := by
 have r0 : RcW twT 0 := by have := RcW.ini (t := twT); rwa [tw_in] at this
 have r1 : RcW twT 1 := by have := RcW.step r0 (i := 0) (by decide) tw_ok.1.1; rwa [tw_to.1] at this
 have r3 : RcW twT 3 := by have := RcW.step r1 (i := 1) (by decide) tw_ok.2.1.2; rwa [tw_to.2.2.1] at this
 refine ⟨by decide, by rw [tw_in]; simp, fun s hs => ?_, fun s hs i hi ho => ?_⟩
 ·simp only [List.mem_cons, List.not_mem_nil, or_false] at hs
  rcases hs with rfl | rfl | rfl
  ·exact r0
  ·exact r1
  ·exact r3
 ·simp only [List.mem_cons, List.not_mem_nil, or_false] at hs ⊢
  rcases hs with rfl | rfl | rfl <;> rcases tw_two hi with rfl | rfl
  ·exact .inr (.inl tw_to.1)
  ·exact absurd ho tw_ok.1.2
  ·exact .inr (.inl tw_to.2.1)
  ·exact .inr (.inr tw_to.2.2.1)
  ·exact .inr (.inr tw_to.2.2.2.1)
  ·exact .inr (.inr tw_to.2.2.2.2)
def twFn (s : Nat) : Int := if s = 0 then 5 else if s = 1 then 3 else 0
theorem tw_go : (¬ goW twT 0) ∧ (¬ goW twT 1) ∧ goW twT 3 := by
 refine ⟨?_, ?_, ?_⟩ <;> (unfold goW; decide +kernel)
theorem tw_F : TopW twT [0, 1, 3] twFn := by
 refine ⟨⟨fun s hs hg => ?_, fun s s' c hs hs' hc => ?_, fun s hs => ?_⟩, fun g hg s hs => ?_⟩
 ·simp only [List.mem_cons, List.not_mem_nil, or_false] at hs
  rcases hs with rfl | rfl | rfl
  ·exact absurd hg tw_go.1
  ·exact absurd hg tw_go.2.1
  ·decide
 ·obtain ⟨i, hi, ho, rfl, rfl⟩ := hc
  simp only [List.mem_cons, List.not_mem_nil, or_false] at hs
  rcases hs with rfl | rfl | rfl <;> rcases tw_two hi with rfl | rfl
  ·rw [tw_to.1]; decide
  ·exact absurd ho tw_ok.1.2
  ·rw [tw_to.2.1]; decide
  ·rw [tw_to.2.2.1]; decide
  ·rw [tw_to.2.2.2.1]; decide
  ·rw [tw_to.2.2.2.2]; decide
 ·unfold twFn; split
  ·decide
  ·split <;> decide
 ·have h3 := hg.g 3 (by simp) tw_go.2.2
  have h1 := hg.st 1 3 3 (by simp) (by simp) ⟨1, by decide, tw_ok.2.1.2, tw_to.2.2.1, rfl⟩
  have h0 := hg.st 0 1 2 (by simp) (by simp) ⟨0, by decide, tw_ok.1.1, tw_to.1, rfl⟩
  simp only [List.mem_cons, List.not_mem_nil, or_false] at hs
  unfold twFn
  rcases hs with rfl | rfl | rfl
  ·rw [if_pos rfl]; omega
  ·rw [if_neg (by decide), if_pos rfl]; omega
  ·rw [if_neg (by decide), if_neg (by decide)]; exact h3
theorem tw_opt : optF twT = (0, 0) ∧ optV twT = 5 := by
 obtain ⟨h1, h2⟩ := optF_0 twT_f tw_A (by decide) tw_F
 exact ⟨h1, by rw [h2, tw_in]; rfl⟩
theorem tw_rx (s : List Int) : Rx twT s twT.goal [0, 1] := by
 refine ⟨fun i hi => by simp at hi; rcases hi with rfl | rfl <;> decide, fun p hp => ?_⟩
 have : p = 1 := by simpa using hp
 subst this
 refine .inr ⟨fun q hq => ?_, by decide⟩
 have : q = 0 := by revert hq; simp [nth]
 subst this
 exact .inr ⟨fun q hq => by revert hq; simp [nth], by decide⟩
theorem tw_cut {s : List Int} (h0 : sttF twT s = (0, 0)) : 0 ≤ (cutW twT s).2 ∧ (cutW twT s).2 ≤ 4000 := by
 obtain ⟨hV, hS⟩ := sttF_ok h0
 have hs : ∀ p, p ∈ s → 0 ≤ p ∧ p < twT.facts := fun p hp => setP_mem hS hp
 rw [cutW_0 h0]
 rcases fn_spec (fnW_ok hV hs) ⟨hV, hs, css_v hV⟩ with ⟨_, h2⟩ | ⟨m, h1, h2⟩
 ·exact absurd (tw_rx s) (h2 _)
 ·rw [h1]
  have h3 := h2.m
  have h4 := (css_v hV).sum
  have h5 := h2.n
  have h6 : (twT.ops.length : Int) = 2 := rfl
  simp only [Int.zero_add]
  omega
def twW (r : Nat) : Nat := if r = 0 then 0 else if r = 1 then 1 else 3
def twP (r : Nat) : List (Nat × Int) := if r = 0 then [(0, 0)] else if r = 1 then [(0, 0), (1, 8193)] else [(0, 0), (1, 8193), (3, 20482)]
abbrev bkV (a i : Int) : Value := .agg #[u32 a, .int .i64 i]
def twB (r : Nat) : List (Int × Value) := if r = 0 then [(0, bkV 0 0)] else if r = 1 then [(0, bkV 0 0), (1, bkV 0 0)] else [(0, bkV 0 0), (1, bkV 0 0), (3, bkV 1 1)]
def twE (r : Nat) : List Nat := if r = 0 then [] else if r = 1 then [0] else [0, 1]
abbrev twN (r : Nat) : Nat := (opL twT (twW r)).length
theorem tw_L0 : opL twT 0 = [0] := by
 show opT twT 0 2 = [0]
 rw [opT_f tw_ok.1.2]; show opT twT 0 1 = [0]; unfold opT; rw [if_pos tw_ok.1.1]; rfl
theorem tw_L1 : opL twT 1 = [0, 1] := by
 show opT twT 1 2 = [0, 1]
 unfold opT; rw [if_pos tw_ok.2.1.2]; unfold opT; rw [if_pos tw_ok.2.1.1]; rfl
def twI (r k : Nat) : Nat := if k = twN r then r + 1 else r
theorem twI_lt {r k : Nat} (h : k < twN r) : twI r k = r := by unfold twI; rw [if_neg (by omega)]
theorem twI_end {r : Nat} : twI r (twN r) = r + 1 := by unfold twI; rw [if_pos rfl]
abbrev twO (r k : Nat) : Nat := nth (opL twT (twW r)) k
abbrev twTo (r k : Nat) : Nat := toW twT (twW r) (twO r k)
abbrev twC (r k : Nat) : Int := (nth twT.ops ((twO r k : Nat) : Int)).cost
abbrev twG (r k : Nat) : Int := wF (twP r) (twW r) + (twC r k * 4096 + 1)
theorem tw_step {r k : Nat} (hr : r ≤ 1) (hk : k < twN r) :
  (0 ≤ twC r k ∧ twC r k ≤ 100 ∧ 0 ≤ wF (twP r) (twW r) ∧ wF (twP r) (twW r) ≤ 100000 ∧ twTo r k < 2 ^ 24) ∧
  (((wAt (twP r) (twTo r k)).isSome = true ∧ wF (twP r) (twTo r k) ≤ twG r k ∧ k + 1 < twN r) ∨
  ((wAt (twP r) (twTo r k)).isSome = false ∧ k + 1 = twN r ∧ twTo r k = twW (r + 1) ∧ wUp (twP r) (twTo r k) (twG r k) = twP (r + 1) ∧ putI (twB r) (twTo r k : Int) (bkV (twW r) (twO r k : Nat)) = twB (r + 1))) := by
 have e0 : twW 0 = 0 := rfl
 have e1 : twW 1 = 1 := rfl
 rcases (by omega : r = 0 ∨ r = 1) with rfl | rfl
 ·have hn : twN 0 = 1 := by unfold twN; rw [e0, tw_L0]; rfl
  have hk0 : k = 0 := by omega
  subst hk0
  have ho : twO 0 0 = 0 := by unfold twO; rw [e0, tw_L0]; rfl
  have ht : twTo 0 0 = 1 := by unfold twTo; rw [ho, e0]; exact tw_to.1
  have hc : twC 0 0 = 2 := by unfold twC; rw [ho]; rfl
  have hg : twG 0 0 = 8193 := by unfold twG; rw [hc]; rfl
  rw [ht, hc, hg, ho, hn]
  refine ⟨by decide, .inr ⟨rfl, rfl, rfl, rfl, rfl⟩⟩
 ·have hn : twN 1 = 2 := by unfold twN; rw [e1, tw_L1]; rfl
  rcases (by omega : k = 0 ∨ k = 1) with rfl | rfl
  ·have ho : twO 1 0 = 0 := by unfold twO; rw [e1, tw_L1]; rfl
   have ht : twTo 1 0 = 1 := by unfold twTo; rw [ho, e1]; exact tw_to.2.1
   have hc : twC 1 0 = 2 := by unfold twC; rw [ho]; rfl
   have hg : twG 1 0 = 16386 := by unfold twG; rw [hc]; rfl
   rw [ht, hc, hg, hn]
   refine ⟨by decide, .inl ⟨rfl, by decide, by decide⟩⟩
  ·have ho : twO 1 1 = 1 := by unfold twO; rw [e1, tw_L1]; rfl
   have ht : twTo 1 1 = 3 := by unfold twTo; rw [ho, e1]; exact tw_to.2.2.1
   have hc : twC 1 1 = 3 := by unfold twC; rw [ho]; rfl
   have hg : twG 1 1 = 20482 := by unfold twG; rw [hc]; rfl
   rw [ht, hc, hg, ho, hn]
   refine ⟨by decide, .inr ⟨rfl, rfl, rfl, rfl, rfl⟩⟩
theorem tw_seen {r : Nat} (hr : r ≤ 1) : putI (seeM (twE r)) (twW r : Int) (.agg #[]) = seeM (twE (r + 1)) := by
 rcases (by omega : r = 0 ∨ r = 1) with rfl | rfl <;> rfl
theorem tw_goal {r : Nat} (hr : r ≤ 2) : goW twT (twW r) ↔ r = 2 := by
 rcases (by omega : r = 0 ∨ r = 1 ∨ r = 2) with rfl | rfl | rfl
 ·exact ⟨fun h => absurd h tw_go.1, fun h => absurd h (by decide)⟩
 ·exact ⟨fun h => absurd h tw_go.2.1, fun h => absurd h (by decide)⟩
 ·exact ⟨fun _ => rfl, fun _ => tw_go.2.2⟩
theorem tw_fct {r : Nat} (hr : r ≤ 2) : sttF twT (fctW (twW r)) = (0, 0) := by
 rcases (by omega : r = 0 ∨ r = 1 ∨ r = 2) with rfl | rfl | rfl <;> decide +kernel
theorem tw_24 {r : Nat} : twW r < 2 ^ 24 := by unfold twW; split; decide; split <;> decide
end Go.Eng
end

section
namespace Go.Eng
abbrev fltV (f : Int × Int) : Value := .agg #[.int .i64 f.1, .int .i64 f.2]
abbrev chkD (t : Tsk) (bw ow : Nat) (sv lv : Value) (l : List Nat) : Ds := [(ptr bw ow, .p [.v (.int .u32 (wdF t.ini : Int)), .v (.int .u32 (wdF t.goal : Int)), .v sv]), (sv, .d (mssD t.ops)), (lv, .d (.s 1 (l.map u32C)))]
theorem opt_big {t : Tsk} (h : tskF t = (0, 0)) (hb : ¬ BigW t) : optF t = (0, 0) := by unfold optF; rw [if_neg (fun hn => hn h), if_neg hb]
theorem chk1 {t : Tsk} {v : Value} {ds' : Ds} (h : (tskF t ≠ (0, 0) ∧ v = .tuple #[.pointer none, .slice none 0 0, .agg #[.int .i64 (tskF t).1, .int .i64 (tskF t).2]] ∧ ds' = []) ∨ (tskF t = (0, 0) ∧ BigW t ∧ v = .tuple #[.pointer none, .slice none 0 0, .agg #[.int .i64 10, .int .i64 (-7)]] ∧ ds' = []) ∨ (tskF t = (0, 0) ∧ ∃ bw ow sv lv l, v = .tuple #[ptr bw ow, lv, .agg #[.int .i64 0, .int .i64 0]] ∧ ds' = chkD t bw ow sv lv l ∧ AlW t l ∧ l.length ≤ 2000)) :
  ∃ wv lv, v = .tuple #[wv, lv, fltV (optF t)] ∧ ((optF t ≠ (0, 0) ∧ optV t = 0) ∨ (optF t = (0, 0) ∧ tskF t = (0, 0) ∧ ∃ bw ow sv l, wv = ptr bw ow ∧ ds' = chkD t bw ow sv lv l ∧ AlW t l ∧ l.length ≤ 2000)) := by
 rcases h with ⟨h1, rfl, rfl⟩ | ⟨h1, h2, rfl, rfl⟩ | ⟨h1, bw, ow, sv, lv, l, rfl, rfl, hA, hl⟩
 ·obtain ⟨e1, e2⟩ := optF_1 h1
  exact ⟨_, _, by rw [e1], .inl ⟨by rw [e1]; exact h1, e2⟩⟩
 ·obtain ⟨e1, e2⟩ := optF_2 h1 h2
  exact ⟨_, _, by rw [e1], .inl ⟨by rw [e1]; decide, e2⟩⟩
 ·have e1 := opt_big h1 (hA.small hl)
  exact ⟨_, _, by rw [e1], .inr ⟨e1, h1, bw, ow, sv, l, rfl, rfl, hA, hl⟩⟩
theorem chk2 {t : Tsk} {v : Value} {ds' : Ds} (hO : optF t = (0, 0)) (h : (tskF t ≠ (0, 0) ∧ v = .tuple #[.pointer none, .slice none 0 0, .agg #[.int .i64 (tskF t).1, .int .i64 (tskF t).2]] ∧ ds' = []) ∨ (tskF t = (0, 0) ∧ BigW t ∧ v = .tuple #[.pointer none, .slice none 0 0, .agg #[.int .i64 10, .int .i64 (-7)]] ∧ ds' = []) ∨ (tskF t = (0, 0) ∧ ∃ bw ow sv lv l, v = .tuple #[ptr bw ow, lv, .agg #[.int .i64 0, .int .i64 0]] ∧ ds' = chkD t bw ow sv lv l ∧ AlW t l ∧ l.length ≤ 2000)) :
  ∃ bw ow sv lv l, v = .tuple #[ptr bw ow, lv, .agg #[.int .i64 0, .int .i64 0]] ∧ ds' = chkD t bw ow sv lv l := by
 rcases h with ⟨h1, _⟩ | ⟨h1, h2, _⟩ | ⟨h1, bw, ow, sv, lv, l, rfl, rfl, hA, hl⟩
 ·rw [(optF_1 h1).1] at hO; exact absurd hO h1
 ·rw [(optF_2 h1 h2).1] at hO; cases hO
 ·exact ⟨bw, ow, sv, lv, l, rfl, rfl⟩
theorem rep_nf {O : Nat → Nat} {H : Nat → Value} {w : World} {n : Int} {f : Int × Int} : RepS O H w (.tuple #[.int .i64 n, fltV f]) (.t [I n, flt f]) := by
 refine .t [_, _] _ rfl fun i x s hx hs => ?_
 rcases i with _ | _ | i
 ·simp at hx hs; subst hx hs; exact .d _ _ (.v _)
 ·simp at hx hs; subst hx hs
  refine .g [_, _] _ rfl (fun x hx => ?_) fun j x s hx hs => ?_
  ·simp only [List.mem_cons, List.not_mem_nil, or_false] at hx
   rcases hx with rfl | rfl <;> rfl
  ·rcases j with _ | _ | j
   ·simp at hx hs; subst hx hs; exact .d _ _ (.v _)
   ·simp at hx hs; subst hx hs; exact .d _ _ (.v _)
   ·simp at hx
 ·simp at hx
section
variable {P : Program} {N : Nat} {w0 : World} {O0 : Nat → Nat} {ops : Array Oper} {Q : Post} {e : Env} {M : Mem} {rest : List Oper} {B : Nat} {o : Oper} {s : S} {c : Code}
theorem TrOps.asG (n : Nat) {vs : List Value} (hn : look e n = some (.d (.v (.agg vs.toArray)))) (h1 : ∀ v, v ∈ vs → v.oneCell' = true) (hc : TrOps P N w0 O0 ops Q ((n, .g (vs.map fun v => S.d (.v v))) :: e) M rest) : TrOps P N w0 O0 ops Q e M rest := by
 intro O H a w hst
 refine hc O H a w ⟨hst.df, hst.sz, hst.bl, hst.lab, fun m s' hs => ?_, hst.mem⟩
 rcases look_cons hs with ⟨rfl, rfl⟩ | ⟨_, hs⟩
 ·obtain ⟨x, hx, hr⟩ := hst.slots _ _ hn
  refine ⟨x, hx, ?_⟩
  rw [rep_v hr]
  refine .g vs _ (by simp) h1 (fun i x s h1 h2 => ?_)
  rw [List.getElem?_map, h1] at h2
  simp at h2; subst h2; exact .d _ _ (.v _)
 ·exact hst.slots m s' hs
theorem TrOps.rawH (n k : Nat) (s : S) (hn : look e n = some s) (hs : hfree 9 s = true) (hc : ∀ v : Value, TrOps P N w0 O0 ops Q ((n, .d (.v v)) :: e) ((k, .fr (dsS [(v, s)])) :: M) rest) : TrOps P N w0 O0 ops Q e M rest := by
 intro O H a w hst
 obtain ⟨x, hx, hr⟩ := hst.slots _ _ hn
 refine hc x O H a w ⟨hst.df, hst.sz, hst.bl, hst.lab, fun m s' hs' => ?_, fun m mo hm => ?_⟩
 ·rcases look_cons hs' with ⟨rfl, rfl⟩ | ⟨_, hs'⟩
  ·exact ⟨x, hx, .d _ _ (.v _)⟩
  ·exact hst.slots m s' hs'
 ·rcases look_cons hm with ⟨rfl, rfl⟩ | ⟨_, hm⟩
  ·exact fun p hp H' => by
    simp only [List.mem_singleton] at hp
    subst hp; exact hfree_rep 9 hs hr
  ·exact hst.mem m mo hm
theorem TrOps.eqV (n : Nat) {v v' : Value} (hn : look e n = some (.d (.v v))) (he : v = v') (hc : TrOps P N w0 O0 ops Q ((n, .d (.v v')) :: e) M rest) : TrOps P N w0 O0 ops Q e M rest := by
 subst he
 exact fun O H a w hst => hc O H a w ⟨hst.df, hst.sz, hst.bl, hst.lab, fun m s hs => by
  rcases look_cons hs with ⟨rfl, rfl⟩ | ⟨_, hs⟩
  ·exact hst.slots _ _ hn
  ·exact hst.slots m s hs, hst.mem⟩
end
section
variable {P : Program} {N : Nat} {w0 : World} {O0 : Nat → Nat} {Q : Post} {e : Env} {M : Mem} {ds : List Deferred}
theorem TrD.condF {c : Operand} {x y : Code} {b : Bool} (hc : opS e c = some (.d (.v (.bool b)))) (hb : b = false) (h : TrD P N w0 O0 ds e M y Q) : TrD P N w0 O0 ds e M (.cond c x y) Q := .cond hc (fun h2 => by rw [hb] at h2; cases h2) (fun _ => h)
end
theorem one2 {a b : Int} : ∀ v, v ∈ [Value.int .i64 a, Value.int .i64 b] → v.oneCell' = true := fun v hv => by
 simp only [List.mem_cons, List.not_mem_nil, or_false] at hv
 rcases hv with rfl | rfl <;> rfl
def KOk (t : Tsk) (K : List (Nat × Int)) : Prop := ∀ s v, wAt K s = some v → v = (cutW t (fctW s)).2
theorem KOk.nil {t : Tsk} : KOk t [] := fun s v h => by cases h
theorem KOk.up {t : Tsk} {K : List (Nat × Int)} (h : KOk t K) {s : Nat} : KOk t (wUp K s (cutW t (fctW s)).2) := fun s' v hv => by
 rw [wAt_up] at hv
 split at hv
 ·rename_i e; cases hv; rw [e]
 ·exact h s' v hv
theorem wF_some {K : List (Nat × Int)} {s : Nat} {v : Int} (h : wAt K s = some v) : wF K s = v := by unfold wF; rw [h]; rfl
theorem wAt_some {K : List (Nat × Int)} {s : Nat} (h : (wAt K s).isSome = true) : ∃ v, wAt K s = some v := Option.isSome_iff_exists.1 h
abbrev hD (t : Tsk) (km : Nat) (c1 c2 c3 : Value) : Ds := [(c1, .p [.v (.map (some km))]), (c2, .p [.v (.int .i64 t.facts), ints t.ini, ints t.goal, sopsD t.ops]), (c3, .p [.v (.int .i64 4)])]
theorem cap_rep {B : Nat} {M : Mem} {t : Tsk} {km h0 h1 s : Nat} {K : List (Nat × Int)} {c1 c2 c3 : Value} {ds0 : Ds} (hM : look M h0 = some (poM (oneO km (.m (wMp K))))) (hD0 : look M h1 = some (.fr (dsS ds0))) (hm : ∀ p, p ∈ hD t km c1 c2 c3 → p ∈ ds0) :
  ∀ (O : Nat → Nat) (H : Nat → Value) (w : World), Mems O H B w M → ∀ (i : Nat) (x : Value) (z : S), ([u32 (s : Int)] ++ [c1, c2, c3])[i]? = some x → [S.d (.v (.int .u32 (s : Int))), .a (capY (wMp K)), .p [.v (.int .i64 t.facts), ints t.ini, ints t.goal, sopsD t.ops], .p [.v (.int .i64 4)]][i]? = some z → RepS zO zH w x z := by
 intro O H w hms i x z hx hz
 have hfr : ∀ p, p ∈ hD t km c1 c2 c3 → RepS zO zH w p.1 p.2 := fun p hp => RepS.keeps (fun b _ h => ⟨rfl, rfl⟩) (hms h1 _ hD0 p (hm p hp) zH)
 obtain ⟨_, _, hmap⟩ := hms h0 _ hM km _ oneO_s
 rcases i with _ | _ | _ | _ | i
 ·simp at hx hz; subst hx hz; exact .d _ _ (.v _)
 ·simp at hx hz; subst hx hz
  have h := hfr (c1, .p [.v (.map (some km))]) (.head _)
  generalize hc : c1 = c at h
  cases h with
  | p b off cs y hO hy hr =>
   have h1 := hy 0 _ rfl
   have h2 := hr 0 _ rfl
   refine .a _ _ ⟨b, off, km, rfl, rfl, ?_, rfl, hmap⟩
   generalize hz0 : y 0 = u at h1 h2
   cases h2 with
   | v _ => simpa using h1
 ·simp at hx hz; subst hx hz; exact hfr _ (.tail _ (.head _))
 ·simp at hx hz; subst hx hz; exact hfr _ (.tail _ (.tail _ (.head _)))
 ·simp at hx
def QOne (A : List QEnt) (it : Nat) : Prop := A.length = 1 ∧ ∀ x, x ∈ A → x.item = it
theorem QOne.new {it : Nat} {key : Int} {A' : List QEnt} (h : QUpd [] it key A') : QOne A' it := by
 obtain ⟨x, hx, _, _⟩ := (h.1 it key).2 (.inl ⟨rfl, rfl⟩)
 have h1 : 0 < A'.length := List.length_pos_of_mem hx
 have h2 := h.2
 refine ⟨by simp at h2; omega, fun y hy => ?_⟩
 rcases (h.1 y.item y.key).1 ⟨y, hy, rfl, rfl⟩ with h3 | ⟨_, z, hz, _⟩
 ·exact h3.1
 ·cases hz
theorem QOne.del {it : Nat} {A A' : List QEnt} {x : QEnt} (h : QOne A it) (hd : QDel A x A') : A' = [] ∧ x.item = it := by
 obtain ⟨y, hy, he, _⟩ := hd.2.1
 refine ⟨List.eq_nil_of_length_eq_zero (by have := hd.2.2; have := h.1; omega), ?_⟩
 rw [← he]; exact h.2 y hy
theorem QInv.nil {p : Pl} {m : List (Int × Value)} (hp : p = none) (hm : m = []) : QInv p [] m := by
 subst hp hm
 exact ⟨by simp, ⟨by simp [NdE], fun i h => by cases h⟩, ⟨fun _ => rfl, rfl, fun b cap tl e => by cases e⟩, ⟨fun x h => (by cases h), fun k v h => by cases h⟩⟩
structure BsX where
 r : Nat
 K : List (Nat × Int)
 p : Pl
 A : List QEnt
 m : List (Int × Value)
 tm : Int
structure BsY where
 K : List (Nat × Int)
 p : Pl
 A : List QEnt
 m : List (Int × Value)
 tm : Int
theorem tw_n0 {r : Nat} (hr : r ≤ 1) : 0 < twN r := by
 rcases (by omega : r = 0 ∨ r = 1) with rfl | rfl
 ·show 0 < (opL twT 0).length; rw [tw_L0]; decide
 ·show 0 < (opL twT 1).length; rw [tw_L1]; decide
def twZ (j : Nat) : List Int := if j = 0 then [] else if j = 1 then [1] else [1, 0]
theorem twZ_s {j : Nat} (h : j < 2) : twZ j ++ [((1 - j : Nat) : Int)] = twZ (j + 1) := by
 rcases (by omega : j = 0 ∨ j = 1) with rfl | rfl <;> rfl
theorem twZ_len {j : Nat} (h : j < 2) : (twZ j).length = j := by
 rcases (by omega : j = 0 ∨ j = 1) with rfl | rfl <;> rfl
theorem tw_back {j : Nat} (h : j < 2) {z : Value} : (lookI (twB 2) (twW (2 - j) : Int)).getD z = bkV (twW (1 - j)) ((1 - j : Nat) : Int) := by
 rcases (by omega : j = 0 ∨ j = 1) with rfl | rfl <;> rfl
theorem twW_ne {j : Nat} (h : j < 2) : twW (2 - j) ≠ twW 0 := by
 rcases (by omega : j = 0 ∨ j = 1) with rfl | rfl <;> decide
theorem bneUU {t : TypeId} {m n : Nat} : binOp .neq t (.int .u32 (m : Int)) (.int .u32 (n : Int)) = pure (.bool (!decide (m = n))) := by
 rw [binOp_neq]
 have e : decide (m = n) = decide ((m : Int) = n) := decide_eq_decide.2 (by omega)
 rw [e]; rfl
def rvL (x y : Int) (j : Nat) : List Value := if j = 0 then [.int .i64 x, .int .i64 y] else [.int .i64 y, .int .i64 x]
def smZ (k : Nat) : Int := if k = 0 then 0 else if k = 1 then 2 else 5
theorem smZ_s {k : Nat} (h : k < 2) : smZ k + (nth twT.ops (nth ([0, 1] : List Int) k)).cost = smZ (k + 1) := by
 rcases (by omega : k = 0 ∨ k = 1) with rfl | rfl <;> rfl
theorem smZ_c {k : Nat} (h : k < 2) : 0 ≤ smZ k ∧ smZ k ≤ 100 ∧ 0 ≤ (nth twT.ops (nth ([0, 1] : List Int) k)).cost ∧ (nth twT.ops (nth ([0, 1] : List Int) k)).cost ≤ 100 := by
 rcases (by omega : k = 0 ∨ k = 1) with rfl | rfl <;> decide
theorem zo_at {k : Nat} (h : k < 2) : nth ([0, 1] : List Int) (k : Int) = k := by
 rcases (by omega : k = 0 ∨ k = 1) with rfl | rfl <;> rfl
end Go.Eng
end

section
namespace Go.Proofs.YtgophedpkiidkaaGreat
open Go.Eng
set_option maxRecDepth 10000
set_option maxHeartbeats 4000000
theorem space_Optimal_M (t : Tsk) {tv : Value} : DoesM Tryz.prog 9 [tv] [(tv, tskS t)] 0 (fo []) (fun v F' ds' => F' = fo [] ∧ ds' = [] ∧ v = .tuple #[.int .i64 (optV t), .agg #[.int .i64 (optF t).1, .int .i64 (optF t).2]]) := by
 refine DoesM.of_body Tryz.func9 rfl rfl (by simp) Tryz.call9 (.inl fun i h => absurd h (Nat.not_lt_zero i)) (fun Oc W => ?_); refine .seeD 0 1001 rfl rfl (.head _) ?_; refine .g <| .r <| .bx 1 ?_; refine .a ?_; refine .al 3 zc32 ?_; refine .z <| .x (.L vs43) ?_; refine .rawH 8 7001 (tskS t) rfl rfl (fun tv2 => ?_); refine .callM (hs := []) (kd := 5009) (F := fo []) (space_Checked_M t (tv := tv2)) rfl rfl rfl (by decide) rfl rfl (fun H => rfl) rfl (by decide) (by decide) (.nil) (.cons 7001 rfl (.head _) .nil) ?_ (by decide)
 rintro v2 F2 ds2 ⟨rfl, hor⟩
 obtain ⟨wv, lv, rfl, hor2⟩ := chk1 hor
 refine .asT 9 (vs := [wv, lv, fltV (optF t)]) rfl ?_; refine .m ?_; refine .x .xt ?_; refine .x .xt ?_; refine .x .xt ?_; refine .asG 12 (vs := [.int .i64 (optF t).1, .int .i64 (optF t).2]) rfl one2 ?_; refine .al 6 zc32 ?_; refine .a ?_; refine .a ?_; refine .sb vs32 ?_; refine .sq <| .g <| .g <| .r <| .x (.L vs32) ?_; refine .x (.bd pl32 zc32) ?_; refine .x (OpSem.neS2 rfl rfl rfl io32) ?_; refine .sq <| .cond rfl (fun c15 => ?_) (fun c15 => ?_)
 ·have hne : optF t ≠ (0, 0) := fun h => by simp [h] at c15
  have hv0 : optV t = 0 := by rcases hor2 with h | h; exact h.2; exact absurd h.1 hne
  refine .g <| PC.start [] ?_; refine .x (.L vs32) ?_; refine .x (OpSem.move (.inr rfl) rfl) ?_; refine .d0 mixed ?_; refine .sb vs32 ?_; exact .sq <| .t <| .t <| .retM (F' := fo []) (ds' := []) (v := .tuple #[.int .i64 0, .agg #[.int .i64 (optF t).1, .int .i64 (optF t).2]]) (.inl rfl) rfl (.tmp rfl <| .cellN rfl rfl vs32 <| .nil) (fun H => rfl) (.nil) .nil rfl rfl (⟨rfl, rfl, by rw [hv0]⟩)
 ·have he : optF t = (0, 0) := pair0 (by simpa using c15)
  obtain ⟨_, h0t, bw, ow, sv, l, rfl, hds, hA, hl⟩ := hor2.resolve_left (fun h => h.1 he)
  subst hds
  have hV := tskF_v h0t
  refine .p <| .z <| .mm ?_; refine .addNo 74 ?_; refine .callM (hs := [74]) (kd := 5019) (F := fo []) (space_Costs_M t hV l hA hl (bw := bw) (ow := ow) (sv := sv) (lv := lv)) rfl rfl rfl (by decide) rfl rfl (fun H => rfl) rfl (by decide) (by decide) (.cons rfl <| .nil) (.cons 5009 rfl (.head _) <| .cons 5009 rfl (.tail _ (.head _)) <| .cons 5009 rfl (.tail _ (.tail _ (.head _))) .nil) ?_ (by decide)
  rintro _ _ _ ⟨bo, Lo, rfl, rfl, rfl, hT⟩
  refine .m ?_; refine .callM (hs := []) (kd := 5021) (F := fo []) ((space_Words_Start_does t (sv := sv)).toM0 (ds := [(ptr bw ow, .p [.v (.int .u32 (wdF t.ini : Int)), .v (.int .u32 (wdF t.goal : Int)), .v sv])]) rfl (fun i v s h1 h2 => by rcases i with _ | _ | i <;> simp at h1 h2; subst h1 h2; simp) rfl) rfl rfl rfl (by decide) rfl rfl (fun H => rfl) rfl (by decide) (by decide) (.nil) (.cons 5009 rfl (.head _) .nil) ?_ (by decide)
  rintro _ _ _ ⟨rfl, rfl, rfl⟩
  refine .x (OpSem.lookO (h := 74) (l := wMp Lo) (n := (wdF t.ini : Int)) (v := .int .i64 (wF Lo (wdF t.ini))) rfl rfl rfl rfl oneO_s mt70 iu72 zw3 look_v) ?_; refine .x (.bd pl32 zc32) ?_; refine .a ?_; refine .sb vs32 ?_; exact .sq <| .t <| .retM (F' := fo []) (ds' := []) (v := .tuple #[.int .i64 (wF Lo (wdF t.ini)), .agg #[.int .i64 0, .int .i64 0]]) (.inl rfl) rfl (.tmp rfl <| .cellN rfl rfl vs32 <| .nil) (fun H => rfl) (.nil) .nil rfl rfl (⟨rfl, rfl, by rw [(optF_0 h0t hA hl hT).1, (optF_0 h0t hA hl hT).2]⟩)
theorem space_Optimal_does (t : Tsk) : Does Tryz.prog false 9 [tskS t] (.t [I (optV t), flt (optF t)]) :=
  DoesM.toDoes Tryz.call9 (R := fun v F' ds' => F' = fo [] ∧ ds' = [] ∧ v = .tuple #[.int .i64 (optV t), .agg #[.int .i64 (optF t).1, .int .i64 (optF t).2]]) (fun vs hl => by
    rcases vs with _ | ⟨v, _ | ⟨v2, vs⟩⟩
    · simp at hl
    · exact space_Optimal_M t
    · simp at hl) rfl (fun O w v F' ds' h _ => by obtain ⟨_, _, rfl⟩ := h; exact rep_nf)
end Go.Proofs.YtgophedpkiidkaaGreat
end

section
namespace Go.Proofs.YtgophedpkiidkaaGreat
open Go.Eng
set_option maxRecDepth 10000
set_option maxHeartbeats 4000000
theorem astar_Value_does (t : Tsk) (s : List Int) : Does Tryz.prog false 60 [tskS t, I (4), .d (ints s)] (I (cutW t s).2) := by
 refine Does.of_body Tryz.func60 rfl rfl (by simp) Tryz.call60 (fun w0 O0 => ?_); refine .lg 0 1 fun len0_1 => ?_; refine .lg 0 2 fun len0_2 => ?_; refine .lg 0 3 fun len0_3 => ?_; refine .le 2 fun len2 => ?_; refine .g <| .r <| .bx 3 ?_; refine .a ?_; refine .sq <| .g <| .g <| .r <| .m ?_; refine .sq <| .k <| .g <| .r <| .x (.b beql) ?_; refine .a ?_; refine .sq <| .condF rfl rfl ?_; refine .g <| .r <| .x (.b beql) ?_; refine .a ?_; refine .sq <| .condF rfl rfl ?_; refine .g <| .r <| .x (.b beql) ?_; refine .a ?_; refine .sq <| .condF rfl rfl ?_; refine .g <| .r <| .x (.b beql) ?_; refine .a ?_; refine .sq <| .condT rfl rfl ?_; refine .g <| .r <| .x (.L vs43) ?_; refine .m ?_; refine .x (OpSem.call0 (lmcut_Cuts_does t s) rfl rfl rfl rfl (Les.refl _)) ?_; refine .m ?_; refine .x .xt ?_; refine .x .xt ?_; refine .x .xt ?_; refine .al 21 zc32 ?_; refine .a ?_; refine .a ?_; refine .sb vs32 ?_; refine .z <| .m ?_; refine .a ?_; exact .sq <| .t <| .k <| .t <| .ret rfl (.tmp rfl <| .nil) rfl (.refl _)
theorem astar_Admissible_does  : Does Tryz.prog false 27 [I (4)] (Bo true) := by
 refine Does.of_body Tryz.func27 rfl rfl (by simp) Tryz.call27 (fun w0 O0 => ?_); refine .g <| .r <| .a ?_; refine .sq <| .g <| .g <| .r <| .m ?_; refine .sq <| .k <| .g <| .g <| .r <| .x (.b beql) ?_; refine .a ?_; refine .sq <| .condF rfl rfl ?_; refine .g <| .r <| .x (.b beql) ?_; refine .a ?_; refine .sq <| .condF rfl rfl ?_; refine .g <| .r <| .x (.b beql) ?_; refine .a ?_; refine .sq <| .condT rfl rfl ?_; refine .p <| .g <| .condT rfl rfl ?_; refine .g <| .r <| .a ?_; exact .sq <| .t <| .k <| .t <| .ret rfl (.tmp rfl <| .nil) rfl (.refl _)
theorem space_Price_does (c : Int) (h0 : 0 ≤ c) (h1 : c ≤ 100) : Does Tryz.prog false 58 [I (c)] (I (c * 4096 + 1)) := by
 refine Does.of_body Tryz.func58 rfl rfl (by simp) Tryz.call58 (fun w0 O0 => ?_); refine .g <| .r <| .a ?_; refine .z <| .m ?_; refine .x (OpSem.bin rfl rfl rfl (bmul (by omega) (by omega))) ?_; refine .x .ad ?_; refine .a ?_; exact .sq <| .t <| .ret rfl (.tmp rfl <| .nil) rfl (.refl _)
theorem astar_Heuristic_1_does (t : Tsk) (K : List (Nat × Int)) (s : Nat) (v : Int) (hK : wAt K s = some v) : Does Tryz.prog false 59 [.d (.v (.int .u32 ((s : Int)))), .a (capY (wMp K)), .p [.v (.int .i64 t.facts), ints t.ini, ints t.goal, sopsD t.ops], .p [.v (.int .i64 4)]] (I v) := by
 refine Does.of_body Tryz.func59 rfl rfl (by simp) Tryz.call59 (fun w0 O0 => ?_); refine .g <| .r <| .a ?_; refine .z <| .x (OpSem.loadCapY rfl rfl vs70) ?_; refine .m ?_; refine .x (OpSem.lookA2 (l := wMp K) (n := (s : Int)) (v := .int .i64 v) (f := true) rfl rfl rfl mt70 iu72 zw3 (by rw [look_v, wF_some hK]) (by rw [look_s, hK]; rfl)) ?_; refine .m ?_; refine .x .xt ?_; refine .x .xt ?_; refine .a ?_; refine .a ?_; refine .sq <| .g <| .g <| .r <| .m ?_; refine .x .nt ?_; refine .sq <| .condF rfl rfl ?_; refine .p <| .z <| .m ?_; refine .a ?_; exact .sq <| .t <| .ret rfl (.tmp rfl <| .nil) rfl (.refl _)
theorem astar_Heuristic_1_M (t : Tsk) {km : Nat} {K : List (Nat × Int)} (hK : KOk t K) (s : Nat) (hs : s < 2 ^ 32) {c1 c2 c3 : Value} : DoesM Tryz.prog 59 [.int .u32 ((s : Int)), c1, c2, c3] (hD t km c1 c2 c3) 1 (fo [oneO km (.m (wMp K))]) (fun v F' ds' => ∃ K', v = .int .i64 (cutW t (fctW s)).2 ∧ F' = fo [oneO km (.m (wMp K'))] ∧ ds' = [] ∧ KOk t K' ∧ wAt K' s = some (cutW t (fctW s)).2) := by
 refine DoesM.of_body Tryz.func59 rfl rfl (by simp) Tryz.call59 (.inr fun v F' ds' h => ⟨0, km, 0, by decide, by decide, by simp [fo, oneO], by obtain ⟨_, _, rfl, _⟩ := h; simp [fo, oneO]⟩) (fun Oc W => ?_); refine .g <| .r <| .a ?_; refine .z <| .x (OpSem.see (s := .p [.v (.map (some km))]) 1 1001 rfl rfl (by simp) (.l1 vs70)) ?_; refine .m ?_; refine .x (OpSem.lookO2 (h := 0) (l := wMp K) (n := (s : Int)) (v := .int .i64 (wF K s)) (f := (wAt K s).isSome) rfl rfl rfl rfl oneO_s mt70 iu72 zw3 look_v look_s) ?_; refine .m ?_; refine .x .xt ?_; refine .x .xt ?_; refine .a ?_; refine .a ?_; refine .sq <| .g <| .g <| .r <| .m ?_; refine .x .nt ?_; refine .sq <| .cond rfl (fun c15 => ?_) (fun c15 => ?_)
 ·refine .g <| PC.start [] ?_; refine .x (OpSem.see (s := .p [.v (.int .i64 t.facts), ints t.ini, ints t.goal, sopsD t.ops]) 2 1001 rfl rfl (by simp) (.lN vs43)) ?_; refine .x (OpSem.see (s := .p [.v (.int .i64 4)]) 3 1001 rfl rfl (by simp) (.l1 vs3)) ?_; refine .m ?_; refine .x (OpSem.call0 (space_Facts_does s hs).fresh rfl rfl rfl rfl (Les.refl _)) ?_; refine .d0 mixed ?_; refine .x (OpSem.call0 (astar_Value_does t (fctW s)) rfl rfl rfl rfl (Les.refl _)) ?_; refine .a ?_; refine .y <| .x (OpSem.see (s := .p [.v (.map (some km))]) 1 1001 rfl rfl (by simp) (.l1 vs70)) ?_; refine .mm ?_; refine .ofSt0' (OpSt.putO (h := 0) (l := (wMp K)) (n := (s : Int)) (v := .int .i64 (cutW t (fctW s)).2) (F' := oneO km (.m (wMp (wUp K s (cutW t (fctW s)).2)))) (.inl rfl) rfl rfl rfl (fun H => rfl) oneO_s mt70 iu72 bk_put2) rfl rfl rfl ?_; refine .z <| .m ?_; refine .a ?_; exact .sq <| .t <| .retM (F' := fo [oneO km (.m (wMp (wUp K s (cutW t (fctW s)).2)))]) (ds' := []) (v := .int .i64 (cutW t (fctW s)).2) (.inl rfl) rfl (.tmp rfl <| .nil) (fun H => rfl) (.cons rfl <| .nil) .nil rfl rfl (⟨_, rfl, rfl, rfl, hK.up, by rw [wAt_up, if_pos rfl]⟩)
 ·obtain ⟨v, hv⟩ := wAt_some (K := K) (s := s) (by simpa using c15)
  have hval := hK s v hv
  refine .p <| .z <| .m ?_; refine .a ?_; exact .sq <| .t <| .retM (F' := fo [oneO km (.m (wMp K))]) (ds' := []) (v := .int .i64 (wF K s)) (.inl rfl) rfl (.tmp rfl <| .nil) (fun H => rfl) (.cons rfl <| .nil) .nil rfl rfl (⟨K, by rw [wF_some hv, hval], rfl, rfl, hK, by rw [hv, hval]⟩)
theorem astar_Heuristic_M (t : Tsk) {tv : Value} : DoesM Tryz.prog 29 [tv, .int .i64 (4)] [(tv, tskS t)] 1 (fo []) (fun v F' ds' => ∃ km c1 c2 c3, v = .func (.func 59) #[] #[c1, c2, c3] ∧ F' = fo [oneO km (.m (wMp []))] ∧ ds' = hD t km c1 c2 c3) := by
 refine DoesM.of_body Tryz.func29 rfl rfl (by simp) Tryz.call29 (.inl fun i h => by simp [fo, noO]) (fun Oc W => ?_); refine .seeD 0 1001 rfl rfl (.head _) ?_; refine .g <| .r <| .bx 2 ?_; refine .bx 3 ?_; refine .a ?_; refine .z <| .makeMapO 0 rfl rfl rfl (by decide) (fun km => ?_); refine .al 5 zc70 ?_; refine .sb vs70 ?_; refine .sq <| .g <| .freezeR 2 rfl rfl ?_; refine .freezeR 3 rfl rfl ?_; refine .freezeR 5 rfl rfl ?_; refine .r <| .rawS 5 7001 rfl rfl (fun c1 => ?_); refine .rawS 2 7002 rfl rfl (fun c2 => ?_); refine .rawS 3 7003 rfl rfl (fun c3 => ?_); refine .x (OpSem.mkFw (vs := [c1, c2, c3]) rfl rfl (fun H => rfl)) ?_; refine .a ?_; exact .sq <| .t <| .retM (F' := fo [oneO km (.m (wMp []))]) (ds' := hD t km c1 c2 c3) (v := .func (.func 59) #[] #[c1, c2, c3]) (.inl rfl) rfl (.tmp rfl <| .nil) (fun H => rfl) (.cons rfl <| .nil) (.cons 7001 rfl (.head _) <| .cons 7002 rfl (.head _) <| .cons 7003 rfl (.head _) .nil) rfl rfl (⟨km, c1, c2, c3, rfl, rfl, rfl⟩)
theorem astar_Checked_M (t : Tsk) (hO : optF t = (0, 0)) {tv : Value} : DoesM Tryz.prog 26 [tv, .bool (true)] [(tv, tskS t)] 0 (fo []) (fun v F' ds' => F' = fo [] ∧ ∃ bw ow sv lv l, v = .tuple #[ptr bw ow, lv, .agg #[.int .i64 0, .int .i64 0]] ∧ ds' = chkD t bw ow sv lv l) := by
 refine DoesM.of_body Tryz.func26 rfl rfl (by simp) Tryz.call26 (.inl fun i h => absurd h (Nat.not_lt_zero i)) (fun Oc W => ?_); refine .seeD 0 1001 rfl rfl (.head _) ?_; refine .g <| .r <| .bx 2 ?_; refine .a ?_; refine .a ?_; refine .al 6 zc32 ?_; refine .z <| .x (.L vs43) ?_; refine .rawH 11 7001 (tskS t) rfl rfl (fun tv2 => ?_); refine .callM (hs := []) (kd := 5012) (F := fo []) (space_Checked_M t (tv := tv2)) rfl rfl rfl (by decide) rfl rfl (fun H => rfl) rfl (by decide) (by decide) (.nil) (.cons 7001 rfl (.head _) .nil) ?_ (by decide)
 rintro v2 F2 ds2 ⟨rfl, hor⟩
 obtain ⟨bw, ow, sv, lv, l, rfl, rfl⟩ := chk2 hO hor
 refine .asT 12 (vs := [ptr bw ow, lv, .agg #[.int .i64 0, .int .i64 0]]) rfl ?_; refine .m ?_; refine .x .xt ?_; refine .x .xt ?_; refine .x .xt ?_; refine .asG 15 (vs := [.int .i64 0, .int .i64 0]) rfl one2 ?_; refine .al 9 zc32 ?_; refine .a ?_; refine .a ?_; refine .sb vs32 ?_; refine .sq <| .g <| .g <| .r <| .m ?_; refine .x .nt ?_; refine .m ?_; refine .gf rfl ?_; refine .gf rfl ?_; refine .gf rfl ?_; refine .gf rfl ?_; refine .gu ?_; refine .gu ?_; refine .gu ?_; refine .gf rfl ?_; refine .x (OpSem.pickF rfl rfl rfl rfl) ?_; refine .sq <| .condF rfl rfl ?_; refine .p <| .g <| .g <| PC.start [] ?_; refine .mm ?_; refine .x (.L vs32) ?_; refine .x (OpSem.move (.inr rfl) rfl) ?_; refine .x (OpSem.move (.inr rfl) rfl) ?_; refine .d0 mixed ?_; refine .sb vs32 ?_; exact .sq <| .t <| .retM (F' := fo []) (ds' := chkD t bw ow sv lv l) (v := .tuple #[ptr bw ow, lv, .agg #[.int .i64 0, .int .i64 0]]) (.inl rfl) rfl (.tmp rfl <| .tmp rfl <| .cellN rfl rfl vs32 <| .nil) (fun H => rfl) (.nil) (.cons 5012 rfl (.head _) <| .cons 5012 rfl (.tail _ (.head _)) <| .cons 5012 rfl (.tail _ (.tail _ (.head _))) .nil) rfl rfl (⟨rfl, bw, ow, sv, lv, l, rfl, rfl⟩)
theorem slices_Reverse_int_int_M {b cap : Nat} {x y : Int} {tl : List Value} : DoesM Tryz.prog 83 [slc b 2 cap] [] 1 (fo [oneO b (.c 3 (rvL x y 0 ++ tl))]) (fun v F' ds' => v = .tuple #[] ∧ F' = fo [oneO b (.c 3 (rvL x y 1 ++ tl))] ∧ ds' = []) := by
 refine DoesM.of_body Tryz.func83 rfl rfl (by simp) Tryz.call83 (.inr fun v F' ds' h => ⟨0, b, 0, by decide, by decide, by simp [fo, oneO], by obtain ⟨_, rfl, _⟩ := h; simp [fo, oneO]⟩) (fun Oc W => ?_); refine .g <| .r <| .m ?_; refine .x (OpSem.lenv rfl rfl es22) ?_; refine .x .su ?_; refine .a ?_; refine .a ?_; refine .sq <| .k <| .loop (X := Nat) (fun j => j ≤ 1) (fun j => [(0, .d (.v (slc b 2 cap))), (2, I ((j : Int))), (3, I ((1 - j : Int)))]) (fun j => [(0, poM (oneO b (.c 3 (rvL x y j ++ tl)))), (999, .any (restK Oc W)), (1000, .fr (frK Oc W))]) (fun j => 1 - j) 0 (by omega) ?_ ?_
 ·exact .sl <| .slot rfl (Le.of_eq (by simp)) <| .slot rfl (Le.of_eq (by simp)) <| .all
 ·rintro j hjl
  refine .g <| .g <| .r <| .mm ?_; refine .x (.b blss) ?_; refine .sq <| .cond rfl (fun c9 => ?_) (fun c9 => ?_)
  ·have hj0 : j = 0 := by have h := of_decide_eq_true c9; omega
   refine .p <| .g <| .g <| .k <| PC.start [] ?_; refine .mm ?_; refine .mm ?_; refine .mm ?_; refine .x (OpSem.idxO rfl rfl rfl es22 (by omega) (by omega)) ?_; refine .x (OpSem.loadO (h := 0) rfl rfl rfl vs3 oneO_s (by subst hj0; rfl)) ?_; refine .mm ?_; refine .x (OpSem.idxO rfl rfl rfl es22 (by omega) (by omega)) ?_; refine .x (OpSem.loadO (h := 0) rfl rfl rfl vs3 oneO_s (by subst hj0; rfl)) ?_; refine .x (OpSem.idxO rfl rfl rfl es22 (by omega) (by omega)) ?_; refine .doneS [2, 3] [[], [3], [2], [2, 3]] mixed (by kernel_rfl) (by kernel_rfl) (by kernel_rfl) (by kernel_rfl) (by kernel_rfl) (by decide) rfl (by kernel_rfl) ⟨?_, ?_, ?_, ?_, trivial⟩
   ·refine ⟨[], _, by kernel_rfl, by repeat' (first | exact .nil | (apply DropRs.hit; rfl) | (apply DropRs.miss; rfl)), ?_⟩; refine .ofSt0' (OpSt.storeO (h := 0) (F' := oneO b (.c 3 ([.int .i64 y, .int .i64 y] ++ tl))) rfl rfl rfl vs3 oneO_s (by subst hj0; simp [rvL]) rfl (by subst hj0; rw [updO_one]; rfl)) rfl rfl rfl ?_; refine TrSet.start ?_; refine .zero ?_; refine .x (OpSem.idxO rfl rfl rfl es22 (by omega) (by omega)) ?_; refine .ofSt0' (OpSt.storeO (h := 0) (F' := oneO b (.c 3 (rvL x y 1 ++ tl))) rfl rfl rfl vs3 oneO_s (by subst hj0; simp) rfl (by subst hj0; rw [updO_one]; rfl)) rfl rfl rfl ?_; refine .n <| .n <| .y <| .m ?_; refine .x .ad ?_; refine .m ?_; refine .x .su ?_; refine .a ?_; refine .a ?_; refine .n <| .again 1 (by omega) ?_ (by omega); exact .sl <| .slot rfl (Le.of_eq (by subst hj0; simp)) <| .slot rfl (Le.of_eq (by subst hj0; simp)) <| .all
   ·refine ⟨[17], _, by kernel_rfl, by repeat' (first | exact .nil | (apply DropRs.hit; rfl) | (apply DropRs.miss; rfl)), ?_⟩; refine .ofSt0' (OpSt.storeO (h := 0) (F' := oneO b (.c 3 ([.int .i64 y, .int .i64 y] ++ tl))) rfl rfl rfl vs3 oneO_s (by subst hj0; simp [rvL]) rfl (by subst hj0; rw [updO_one]; rfl)) rfl rfl rfl ?_; refine TrSet.start ?_; refine .succ ⟨?_, trivial⟩
    ·refine .inr (TrI.sem rfl (OpSem.move (.inl rfl) rfl) rfl rfl (by decide) rfl ?_); refine .zero ?_; refine .x (OpSem.idxO rfl rfl rfl es22 (by omega) (by omega)) ?_; refine .ofSt0' (OpSt.storeO (h := 0) (F' := oneO b (.c 3 (rvL x y 1 ++ tl))) rfl rfl rfl vs3 oneO_s (by subst hj0; simp) rfl (by subst hj0; rw [updO_one]; rfl)) rfl rfl rfl ?_; refine .n <| .n <| .y <| .m ?_; refine .x .ad ?_; refine .m ?_; refine .x .su ?_; refine .a ?_; refine .a ?_; refine .n <| .again 1 (by omega) ?_ (by omega); exact .sl <| .slot rfl (Le.of_eq (by subst hj0; simp)) <| .slot rfl (Le.of_eq (by subst hj0; simp)) <| .all
   ·refine ⟨[16], _, by kernel_rfl, by repeat' (first | exact .nil | (apply DropRs.hit; rfl) | (apply DropRs.miss; rfl)), ?_⟩; refine .ofSt0' (OpSt.storeO (h := 0) (F' := oneO b (.c 3 ([.int .i64 y, .int .i64 y] ++ tl))) rfl rfl rfl vs3 oneO_s (by subst hj0; simp [rvL]) rfl (by subst hj0; rw [updO_one]; rfl)) rfl rfl rfl ?_; refine TrSet.start ?_; refine .succ ⟨?_, trivial⟩
    ·refine .inr (TrI.sem rfl (OpSem.move (.inl rfl) rfl) rfl rfl (by decide) rfl ?_); refine .zero ?_; refine .x (OpSem.idxO rfl rfl rfl es22 (by omega) (by omega)) ?_; refine .ofSt0' (OpSt.storeO (h := 0) (F' := oneO b (.c 3 (rvL x y 1 ++ tl))) rfl rfl rfl vs3 oneO_s (by subst hj0; simp) rfl (by subst hj0; rw [updO_one]; rfl)) rfl rfl rfl ?_; refine .n <| .n <| .y <| .m ?_; refine .x .ad ?_; refine .m ?_; refine .x .su ?_; refine .a ?_; refine .a ?_; refine .n <| .again 1 (by omega) ?_ (by omega); exact .sl <| .slot rfl (Le.of_eq (by subst hj0; simp)) <| .slot rfl (Le.of_eq (by subst hj0; simp)) <| .all
   ·refine ⟨[16, 17], _, by kernel_rfl, by repeat' (first | exact .nil | (apply DropRs.hit; rfl) | (apply DropRs.miss; rfl)), ?_⟩; refine .ofSt0' (OpSt.storeO (h := 0) (F' := oneO b (.c 3 ([.int .i64 y, .int .i64 y] ++ tl))) rfl rfl rfl vs3 oneO_s (by subst hj0; simp [rvL]) rfl (by subst hj0; rw [updO_one]; rfl)) rfl rfl rfl ?_; refine TrSet.start ?_; refine .succ ⟨?_, ?_, trivial⟩
    ·refine .inr (TrI.sem rfl (OpSem.move (.inl rfl) rfl) rfl rfl (by decide) rfl ?_); refine .succ ⟨?_, trivial⟩
     ·refine .inr (TrI.sem rfl (OpSem.move (.inl rfl) rfl) rfl rfl (by decide) rfl ?_); refine .zero ?_; refine .x (OpSem.idxO rfl rfl rfl es22 (by omega) (by omega)) ?_; refine .ofSt0' (OpSt.storeO (h := 0) (F' := oneO b (.c 3 (rvL x y 1 ++ tl))) rfl rfl rfl vs3 oneO_s (by subst hj0; simp) rfl (by subst hj0; rw [updO_one]; rfl)) rfl rfl rfl ?_; refine .n <| .n <| .y <| .m ?_; refine .x .ad ?_; refine .m ?_; refine .x .su ?_; refine .a ?_; refine .a ?_; refine .n <| .again 1 (by omega) ?_ (by omega); exact .sl <| .slot rfl (Le.of_eq (by subst hj0; simp)) <| .slot rfl (Le.of_eq (by subst hj0; simp)) <| .all
    ·refine .inr (TrI.sem rfl (OpSem.move (.inl rfl) rfl) rfl rfl (by decide) rfl ?_); refine .succ ⟨?_, trivial⟩
     ·refine .inr (TrI.sem rfl (OpSem.move (.inl rfl) rfl) rfl rfl (by decide) rfl ?_); refine .zero ?_; refine .x (OpSem.idxO rfl rfl rfl es22 (by omega) (by omega)) ?_; refine .ofSt0' (OpSt.storeO (h := 0) (F' := oneO b (.c 3 (rvL x y 1 ++ tl))) rfl rfl rfl vs3 oneO_s (by subst hj0; simp) rfl (by subst hj0; rw [updO_one]; rfl)) rfl rfl rfl ?_; refine .n <| .n <| .y <| .m ?_; refine .x .ad ?_; refine .m ?_; refine .x .su ?_; refine .a ?_; refine .a ?_; refine .n <| .again 1 (by omega) ?_ (by omega); exact .sl <| .slot rfl (Le.of_eq (by subst hj0; simp)) <| .slot rfl (Le.of_eq (by subst hj0; simp)) <| .all
  ·have hj1 : j = 1 := by have h := of_decide_eq_false c9; omega
   subst hj1
   exact .u <| .u <| .u <| .b <| .retM (F' := fo [oneO b (.c 3 (rvL x y 1 ++ tl))]) (ds' := []) (v := .tuple #[]) (.inr rfl) rfl (.nil) (fun H => rfl) (.cons rfl <| .nil) .nil rfl rfl (⟨rfl, rfl, rfl⟩)
theorem space_Path_uint32_M {bq : Nat} : DoesM Tryz.prog 57 [.map (some bq), .int .u32 (((twW 0 : Nat) : Int)), .int .u32 (((twW 2 : Nat) : Int))] [] 1 (fo [oneO bq (.m (twB 2))]) (fun v F' ds' => F' = fo [oneO bq (.m (twB 2))] ∧ ds' = [(v, .d (ints [0, 1]))]) := by
 refine DoesM.of_body Tryz.func57 rfl rfl (by simp) Tryz.call57 (.inr fun v F' ds' h => ⟨0, bq, 0, by decide, by decide, by simp [fo, oneO], by obtain ⟨rfl, _⟩ := h; simp [fo, oneO]⟩) (fun Oc W => ?_); refine .g <| .r <| .a ?_; refine .z <| .a ?_; refine .ownNil (n := 7) 7 1 3 rfl ?_; refine .sq <| .g <| .k <| .loop (X := Nat) (fun j => j ≤ 2) (fun j => [(0, .d (.v (.map (some bq)))), (1, .d (.v (.int .u32 (((twW 0 : Nat) : Int))))), (2, .d (.v (.int .u32 (((twW (2 - j) : Nat) : Int))))), (7, .o 7)]) (fun j => [(0, poM (oneO bq (.m (twB 2)))), (7, .own 1 3 ((twZ j).map fun n => [D.v (.int .i64 n)])), (999, .any (restK Oc W)), (1000, .fr (frK Oc W))]) (fun j => 2 - j) 0 (by omega) ?_ ?_
 ·exact .p3 <| .sl <| .mem rfl <| .memEq rfl (by simp [twZ]) <| .all
 ·rintro j hjl
  refine .g <| .g <| .r <| .mm ?_; refine .x (.b bneUU) ?_; refine .sq <| .cond rfl (fun c11 => ?_) (fun c11 => ?_)
  ·have hj : j < 2 := by refine Decidable.byContradiction fun hn => ?_; have e : j = 2 := (by omega); subst e; exact absurd c11 (by decide)
   refine .p <| .g <| .k <| .g <| .r <| .mm ?_; refine .x (OpSem.lookO (h := 0) (l := twB 2) (n := ((twW (2 - j) : Nat) : Int)) (v := bkV (twW (1 - j)) ((1 - j : Nat) : Int)) rfl rfl rfl rfl oneO_s mt131 iu72 zw130 (tw_back hj)) ?_; refine .asG 14 (vs := [u32 (twW (1 - j)), .int .i64 ((1 - j : Nat) : Int)]) rfl (fun v hv => by simp only [List.mem_cons, List.not_mem_nil, or_false] at hv; rcases hv with rfl | rfl <;> rfl) ?_; refine .al 8 zc130 ?_; refine .sb vs130 ?_; refine .z <| .m ?_; refine .x (.f fo130_1) ?_; refine .x (.l vs3) ?_; refine .x (.bs es22 ze22) ?_; refine .append rfl rfl rfl (by decide) rfl rfl rfl es22 el22 zc3 rfl by3 (by simp [D.one, Value.oneCell']) (by simp [maxLen, twZ_len hj]; omega) (by simp [twZ_len hj]; omega) ?_; refine .a ?_; refine .y <| .x (.f fo130_0) ?_; refine .x (.l vs72) ?_; refine .a ?_; refine .n <| .n <| .again (j + 1) (by omega) ?_ (by omega); exact .p2 <| .slot rfl (Le.of_eq (by rw [show 2 - (j + 1) = 1 - j from by omega] <;> rfl)) <| .sl <| .mem rfl <| .memEq rfl (by rw [← twZ_s hj]; simp) <| .all
  ·have hj2 : j = 2 := by refine Decidable.byContradiction fun hn => twW_ne (j := j) (by omega) ?_; simpa using c11
   subst hj2
   refine .u <| .u <| .u <| .b <| .z <| .ownPo 7 7 (vs := [.int .i64 1, .int .i64 0]) rfl rfl (by rfl) (by simp) (fun b cap tl hpl => ?_); refine .m ?_; refine .callM (hs := [7]) (kd := 5023) (F := fo [oneO b (.c 3 (rvL 1 0 0 ++ tl))]) (slices_Reverse_int_int_M (b := b) (cap := cap) (x := 1) (y := 0) (tl := tl)) rfl rfl rfl (by decide) rfl rfl (fun H => rfl) rfl (by decide) (by decide) (.cons rfl <| .nil) .nil ?_ (by decide)
   rintro _ _ _ ⟨rfl, rfl, rfl⟩
   refine .poOwn 7 7 (vs := [.int .i64 0, .int .i64 1]) (tl := tl) rfl rfl ⟨hpl.e, hpl.len, hpl.s⟩ (fun v hv => by simp only [List.mem_cons, List.not_mem_nil, or_false] at hv; rcases hv with rfl | rfl <;> rfl) ?_; refine .memEq (h := 7) (m' := .own 1 3 (([0, 1] : List Int).map fun n => [D.v (.int .i64 n)])) rfl rfl ?_; refine .sq <| .g <| .freeze 7 rfl ?_; refine .r <| .rawS 7 7005 rfl rfl (fun lv => ?_); refine .m ?_; refine .a ?_; exact .sq <| .t <| .retM (F' := fo [oneO bq (.m (twB 2))]) (ds' := [(lv, .d (ints [0, 1]))]) (v := lv) (.inl rfl) rfl (.tmp rfl <| .nil) (fun H => rfl) (.cons rfl <| .nil) (.cons 7005 rfl (.head _) .nil) rfl rfl (⟨rfl, rfl⟩)
theorem space_Result_does  : Does Tryz.prog false 30 [tskS twT, .d (ints ([0, 1] : List Int)), Bo (true), I (2)] (.t [.g [Bo true, .d (ints [0, 1]), I 5, I 2], flt (0, 0)]) := by
 refine Does.of_body Tryz.func30 rfl rfl (by simp) Tryz.call30 (fun w0 O0 => ?_); refine .lg 0 1 fun len0_1 => ?_; refine .lg 0 2 fun len0_2 => ?_; refine .lg 0 3 fun len0_3 => ?_; refine .le 1 fun len1 => ?_; refine .g <| .r <| .bx 4 ?_; refine .al 8 zc46 ?_; refine .al 9 zc32 ?_; refine .sq <| .g <| .g <| .r <| .m ?_; refine .x (.n es22) ?_; refine .x (.b bgtr) ?_; refine .sq <| .condF rfl rfl ?_; refine .p <| .z <| .mm ?_; refine .m ?_; refine .x (.bd pl46 zc46) ?_; refine .al 10 zc46 ?_; refine .sb vs46 ?_; refine .sq <| .g <| .g <| .r <| .m ?_; refine .x (.n es22) ?_; refine .m ?_; refine .sq <| .k <| .loop (X := Nat) (fun k => k ≤ 2) (fun k => [(4, .r 4 0), (8, .r 8 0), (9, .r 9 0), (10, .r 10 0), (22, .d (ints ([0, 1] : List Int))), (23, I (([0, 1] : List Int).length)), (24, I (k))]) (fun k => [(10, .box [Bo (true), .d (ints ([0, 1] : List Int)), I (smZ k), I (2)]), (4, .box [I (twT.facts), .d (ints twT.ini), .d (ints twT.goal), .d (sopsD twT.ops)]), (8, .box [Bo (false), .d (.v (.slice none 0 0)), I (0), I (0)]), (9, .box [I (0), I (0)])]) (fun k => 2 - k) 0 (by omega) ?_ ?_
 ·exact .p5 <| .sl <| .slot rfl (Le.of_eq (by simp)) <| .boxLe rfl (.cons (.refl _) <| .cons (.refl _) <| .cons (Le.i rfl) <| .cons (.refl _) <| .nil) <| .all
 ·rintro k hkl
  refine .g <| .r <| .x (.b blss) ?_; refine .sq <| .g <| .cond rfl (fun c25 => ?_) (fun c25 => ?_)
  ·have hk : k < 2 := by have h := of_decide_eq_true c25; simp at h; omega
   have hz := zo_at hk
   have hs := smZ_s hk
   have hc := smZ_c hk
   refine .p <| .g <| .g <| .k <| .g <| .r <| .x (OpSem.idxL rfl rfl rfl es22 (by omega) (by simp; omega)) ?_; refine .x (.l1 vs3) ?_; refine .a ?_; refine .sq <| PC.start [] ?_; refine .x (.f fo46_2) ?_; refine .x (.l vs3) ?_; refine .x (.f fo43_3) ?_; refine .x (.l vs41) ?_; refine .m ?_; refine .x (OpSem.idxL rfl rfl rfl es41 (by omega) (by rw [hz]; show (k : Int) < 2; omega)) ?_; refine .x (OpSem.fieldp rfl rfl fo75_3) ?_; refine .x (.l1 vs3) ?_; refine .d0 mixed ?_; refine .x .ad ?_; refine .x (.f fo46_2) ?_; refine .sb vs3 ?_; refine .n <| .n <| .y <| .x .ad ?_; refine .m ?_; refine .n <| .again (k + 1) (by omega) ?_ (by omega); exact .p5 <| .sl <| .slot rfl (Le.of_eq (by simp)) <| .boxLe rfl (.cons (.refl _) <| .cons (.refl _) <| .cons (Le.i hs) <| .cons (.refl _) <| .nil) <| .all
  ·have hk : k = 2 := by simp at c25; omega
   subst hk
   refine .u <| .u <| .u <| .b <| .z <| .x (.L vs46) ?_; refine .x (.bd pl32 zc32) ?_; refine .sb vs46 ?_; refine .sb vs32 ?_; exact .sq <| .t <| .ret rfl (.cellN rfl rfl vs46 <| .cellN rfl rfl vs32 <| .nil) rfl (Le.t (.cons (Le.of_eq rfl) <| .cons (.refl _) <| .nil))
end Go.Proofs.YtgophedpkiidkaaGreat
end

section
namespace Go.Proofs.YtgophedpkiidkaaGreat
open Go.Eng
set_option maxRecDepth 10000
set_option maxHeartbeats 4000000
theorem astar_Best_uint32_M {bw ow km : Nat} {sv c1 c2 c3 : Value} {Kn : List (Nat × Int)} (hK : KOk twT Kn) : DoesM Tryz.prog 28 [.iface 66 (ptr bw ow), .func (.func 59) #[] #[c1, c2, c3]] [(ptr bw ow, .p [.v (.int .u32 (wdF twT.ini : Int)), .v (.int .u32 (wdF twT.goal : Int)), .v sv]), (sv, .d (mssD twT.ops)), (c1, .p [.v (.map (some km))]), (c2, .p [.v (.int .i64 twT.facts), ints twT.ini, ints twT.goal, sopsD twT.ops]), (c3, .p [.v (.int .i64 4)])] 1 (fo [oneO km (.m (wMp Kn))]) (fun v F' ds' => ∃ lv K', v = .tuple #[lv, .int .i64 2, .bool true] ∧ F' = fo [oneO km (.m (wMp K'))] ∧ ds' = [(lv, .d (ints [0, 1]))]) := by
 have hcut := fun (r : Nat) (hr : r ≤ 2) => tw_cut (tw_fct (r := r) hr)
 have hcut0 := hcut 0 (by decide)
 refine DoesM.of_bodyD Tryz.func28 rfl rfl (by simp) Tryz.call28 (.inr fun v F' ds' h => ⟨0, km, 0, by decide, by decide, by simp [fo, oneO], by obtain ⟨_, _, _, rfl, _⟩ := h; simp [fo, oneO]⟩) (fun Oc W => ?_)
 refine TrD.seq ?_
 refine TrD.region ?_
 refine TrOps.semM (OpSem.box 3 rfl rfl rfl rfl) rfl rfl (by decide) ?_
 refine TrOps.sem (OpSem.move (.inr rfl) rfl) rfl rfl (by decide) ?_
 refine TrOps.sem (OpSem.move (.inr rfl) rfl) rfl rfl (by decide) ?_
 refine TrOps.sem (OpSem.move (.inr rfl) rfl) rfl rfl (by decide) ?_
 refine TrOps.nil ?_
 refine AtD.seq ?_
 refine TrD.seq ?_
 refine TrD.region ?_
 refine TrOps.sem (OpSem.move (.inl rfl) rfl) rfl rfl (by decide) ?_
 refine TrOps.callI (hs := []) (kd := 5020) (F := fo []) ((space_Words_Start_does twT (sv := sv)).toM0 (ds := [(ptr bw ow, .p [.v (.int .u32 (wdF twT.ini : Int)), .v (.int .u32 (wdF twT.goal : Int)), .v sv])]) rfl (fun i v s h1 h2 => by rcases i with _ | _ | i <;> simp at h1 h2; subst h1 h2; simp) rfl) (fun v xs w => by kernel_rfl) rfl rfl rfl (by decide) rfl rfl (fun H => rfl) rfl (by decide) (by decide) (.nil) (.cons 1001 rfl (.head _) .nil) ?_ (by decide)
 rintro _ _ _ ⟨rfl, rfl, rfl⟩
 refine TrOps.eqV 20 rfl (show u32 (wdF twT.ini : Int) = u32 ((twW 0 : Nat) : Int) by rw [tw_in]; rfl) ?_
 refine TrOps.sem (OpSem.move (.inr rfl) rfl) rfl rfl (by decide) ?_
 refine TrOps.nil ?_
 refine AtD.seq ?_
 refine TrD.seq ?_
 refine TrD.seq ?_
 refine TrD.region ?_
 refine TrOps.sem (OpSem.loadb1 rfl rfl rfl vs79 rfl) rfl rfl (by decide) ?_
 refine TrOps.sem (OpSem.move (.inl rfl) rfl) rfl rfl (by decide) ?_
 refine TrOps.callC (hs := [0]) (kd := 5023) (F := fo [oneO km (.m (wMp Kn))]) (args := [u32 (((twW 0) : Nat) : Int)]) (caps := [c1, c2, c3]) (astar_Heuristic_1_M twT hK (twW 0) (Nat.lt_trans tw_24 (by decide))) rfl rfl rfl (by decide) rfl rfl (fun H => rfl) rfl (by decide) (by decide) (.cons rfl <| .nil) (.cons 1001 rfl (.tail _ (.tail _ (.head _))) <| .cons 1001 rfl (.tail _ (.tail _ (.tail _ (.head _)))) <| .cons 1001 rfl (.tail _ (.tail _ (.tail _ (.tail _ (.head _))))) .nil) ?_ (by decide)
 rintro _ _ _ ⟨K1, rfl, rfl, rfl, hK1, hs1⟩
 refine TrOps.sem (OpSem.bin rfl rfl rfl bgeq) rfl rfl (by decide) ?_
 refine TrOps.nil ?_
 refine AtD.seq ?_
 refine TrD.condF rfl (decide_eq_false (by omega)) ?_
 refine TrD.skip ?_
 refine AtD.seq ?_
 refine TrD.seq ?_
 refine TrD.region ?_
 refine TrOps.makeMapO 70 rfl rfl rfl (by decide) (fun bp => ?_)
 refine TrOps.sem (OpSem.move (.inl rfl) rfl) rfl rfl (by decide) ?_
 refine TrOps.ofSt0' (OpSt.putO (h := 70) (l := []) (n := ((twW 0 : Nat) : Int)) (v := .int .i64 0) (F' := oneO bp (.m (wMp (twP 0)))) (.inr rfl) rfl rfl rfl (fun H => rfl) oneO_s mt70 iu72 (by rw [updO_one]; rfl)) rfl rfl rfl ?_
 refine TrOps.sem (OpSem.move (.inl rfl) rfl) rfl rfl (by decide) ?_
 refine TrOps.semM (OpSem.alloc 8 rfl zc70 rfl) rfl rfl (by decide) ?_
 refine TrOps.storeb rfl rfl rfl rfl rfl rfl rfl vs70 (by first | decide | simp) ?_
 refine TrOps.nil ?_
 refine AtD.seq ?_
 refine TrD.seq ?_
 refine TrD.region ?_
 refine TrOps.makeMapO 71 rfl rfl rfl (by decide) (fun bq2 => ?_)
 refine TrOps.sem (OpSem.move (.inl rfl) rfl) rfl rfl (by decide) ?_
 refine TrOps.sem (OpSem.move (.inl rfl) rfl) rfl rfl (by decide) ?_
 refine TrOps.sem (OpSem.build rfl rfl pl130 zc130 rfl rfl) rfl rfl (by decide) ?_
 refine TrOps.ofSt0' (OpSt.putO (h := 71) (l := []) (n := ((twW 0 : Nat) : Int)) (v := bkV (twW 0 : Nat) 0) (F' := oneO bq2 (.m (twB 0))) (.inr rfl) rfl rfl rfl (fun H => rfl) oneO_s mt131 iu72 (by rw [updO_one]; rfl)) rfl rfl rfl ?_
 refine TrOps.sem (OpSem.move (.inl rfl) rfl) rfl rfl (by decide) ?_
 refine TrOps.semM (OpSem.alloc 9 rfl zc131 rfl) rfl rfl (by decide) ?_
 refine TrOps.storeb rfl rfl rfl rfl rfl rfl rfl vs131 (by first | decide | simp) ?_
 refine TrOps.nil ?_
 refine AtD.seq ?_
 refine TrD.seq ?_
 refine TrD.region ?_
 refine TrOps.addNo 62 ?_
 refine TrOps.addNo 63 ?_
 refine TrOps.addNo 64 ?_
 refine TrOps.addNo 65 ?_
 refine TrOps.callM (hs := [62, 63, 64, 65]) (kd := 5033) (F := fo []) openlist_New_uint32_M rfl rfl rfl (by decide) rfl rfl (fun H => rfl) rfl (by decide) (by decide) (.cons rfl <| .cons rfl <| .cons rfl <| .cons rfl <| .nil) .nil ?_ (by decide)
 rintro _ _ _ ⟨q, Tq, bq, rfl, rfl, rfl⟩
 refine TrOps.semM (OpSem.alloc 10 rfl zc109 rfl) rfl rfl (by decide) ?_
 refine TrOps.storeb rfl rfl rfl rfl rfl rfl rfl vs109 (by first | decide | simp) ?_
 refine TrOps.nil ?_
 refine AtD.seq ?_
 refine TrD.seq ?_
 refine TrD.of ?_
 refine PC.start [] ?_
 refine PC.sem (OpSem.loadb1 rfl rfl rfl vs109 rfl) rfl rfl ?_
 refine PC.sem (OpSem.move (.inl rfl) rfl) rfl rfl ?_
 refine PC.sem (OpSem.loadb1 rfl rfl rfl vs79 rfl) rfl rfl ?_
 refine PC.sem (OpSem.move (.inl rfl) rfl) rfl rfl ?_
 refine PC.sem (OpSem.callZ (caps := [c1, c2, c3]) (vs := [u32 (((twW 0) : Nat) : Int)]) (astar_Heuristic_1_does twT K1 (twW 0) _ hs1) rfl rfl (cap_rep (t := twT) (h0 := 0) (h1 := 1001) rfl rfl (fun p hp => by simp only [List.mem_cons, List.not_mem_nil, or_false] at hp; rcases hp with rfl | rfl | rfl <;> simp)) rfl rfl rfl (fun H => rfl)) rfl rfl ?_
 refine PC.sem (OpSem.bin rfl rfl rfl (bmul (by omega) (by omega))) rfl rfl ?_
 refine PC.done0 mixed (by kernel_rfl) (by kernel_rfl) (by kernel_rfl) (by kernel_rfl) (by kernel_rfl) ?_
 refine TrOps.callM (hs := [62, 63, 64, 65]) (kd := 5040) (F := qF q Tq bq (0) none [] []) (openlist_Queue_uint32_Set_M (item := (twW 0)) (key := 4096 * (cutW twT (fctW (twW 0))).2) (QInv.nil rfl rfl) (by simp)) rfl rfl rfl (by decide) rfl rfl (fun H => rfl) rfl (by decide) (by decide) (.cons rfl <| .cons rfl <| .cons rfl <| .cons rfl <| .nil) .nil ?_ (by decide)
 rintro _ _ _ ⟨p1, A1, m1, rfl, rfl, rfl, hQ1, hU1⟩
 refine TrOps.nil ?_
 refine AtD.seq ?_
 refine TrD.seq ?_
 refine TrD.region ?_
 refine TrOps.makeMapO 73 rfl rfl rfl (by decide) (fun be => ?_)
 refine TrOps.sem (OpSem.move (.inr rfl) rfl) rfl rfl (by decide) ?_
 refine TrOps.nil ?_
 refine AtD.seq ?_
 refine TrD.seq ?_
 refine TrD.block ?_
 refine TrD.loop (Oc := Oc) (W := W) (X := BsX) (fun x => x.r ≤ 2 ∧ QInv x.p x.A x.m ∧ QOne x.A (twW x.r) ∧ KOk twT x.K) (fun x => [(0, .d (.v (.iface 66 (ptr bw ow)))), (3, .r 3 0), (7, .d (.v (.int .u32 (((twW 0 : Nat) : Int))))), (8, .r 8 0), (9, .r 9 0), (10, .r 10 0), (11, .d (.v (.map (some be))))]) (fun x => [(0, poM (oneO km (.m (wMp x.K)))), (70, poM (oneO bp (.m (wMp (twP x.r))))), (71, poM (oneO bq2 (.m (twB x.r)))), (62, poM (oneO q (.c Tq [plV x.p x.A.length, .map (some bq), .int .i64 (x.tm)]))), (63, poM (plMe 160 x.p (arrV x.A))), (64, poM (enF x.A)), (65, poM (oneO bq (.m x.m))), (73, poM (oneO be (.m (seeM (twE x.r))))), (3, .box [.d (.v (.func (.func 59) #[] #[c1, c2, c3]))]), (8, .box [.d (.v (.map (some bp)))]), (9, .box [.d (.v (.map (some bq2)))]), (10, .box [.d (.v (ptr q 0))]), (999, .any (restK Oc W)), (1000, .fr (frK Oc W)), (1001, .fr (dsS [(ptr bw ow, .p [.v (.int .u32 (wdF twT.ini : Int)), .v (.int .u32 (wdF twT.goal : Int)), .v sv]), (sv, .d (mssD twT.ops)), (c1, .p [.v (.map (some km))]), (c2, .p [.v (.int .i64 twT.facts), ints twT.ini, ints twT.goal, sopsD twT.ops]), (c3, .p [.v (.int .i64 4)])]))]) (fun x => 3 - x.r) ⟨0, K1, p1, A1, m1, IntKind.i64.wrap (0 + 1)⟩ ⟨by simp, hQ1, QOne.new hU1, hK1⟩ ?_ ?_
 ·exact .slot rfl (.refl _) <| .slot rfl (.refl _) <| .slot rfl (.refl _) <| .slot rfl (.refl _) <| .slot rfl (.refl _) <| .slot rfl (.refl _) <| .slot rfl (.refl _) <| .mem rfl <| .mem rfl <| .mem rfl <| .mem rfl <| .mem rfl <| .mem rfl <| .mem rfl <| .mem rfl <| .memEq rfl rfl <| .mem rfl <| .mem rfl <| .mem rfl <| .mem rfl <| .mem rfl <| .mem rfl <| .mem rfl <| .nil
 ·rintro ⟨r, Kn, p, A, m, tm⟩ ds ⟨hr, hQ, hO, hK⟩
  simp only [] at hr hQ hO hK
  refine TrD.seq ?_
  refine TrD.seq ?_
  refine TrD.region ?_
  refine TrOps.sem (OpSem.loadb1 rfl rfl rfl vs109 rfl) rfl rfl (by decide) ?_
  refine TrOps.callM (hs := [62, 63, 64, 65]) (kd := 5043) (F := qF q Tq bq (tm) p A m) (openlist_Queue_uint32_Len_M hQ.p.e) rfl rfl rfl (by decide) rfl rfl (fun H => rfl) rfl (by decide) (by decide) (.cons rfl <| .cons rfl <| .cons rfl <| .cons rfl <| .nil) .nil ?_ (by decide)
  rintro _ _ _ ⟨rfl, rfl, rfl⟩
  refine TrOps.sem (OpSem.bin rfl rfl rfl bgtr) rfl rfl (by decide) ?_
  refine TrOps.nil ?_
  refine AtD.seq ?_
  refine TrD.cond rfl (fun c44 => ?_) (fun c44 => ?_)
  ·refine TrD.skip ?_
   refine AtD.seq ?_
   refine TrD.block ?_
   refine TrD.seq ?_
   refine TrD.region ?_
   refine TrOps.sem (OpSem.loadb1 rfl rfl rfl vs109 rfl) rfl rfl (by decide) ?_
   refine TrOps.callM (hs := [62, 63, 64, 65]) (kd := 5047) (F := qF q Tq bq (tm) p A m) (openlist_Queue_uint32_Take_M hQ (by rw [hO.1]; decide) (by rw [hO.1]; decide)) rfl rfl rfl (by decide) rfl rfl (fun H => rfl) rfl (by decide) (by decide) (.cons rfl <| .cons rfl <| .cons rfl <| .cons rfl <| .nil) .nil ?_ (by decide)
   rintro _ _ _ ⟨p1, A1, m1, xq, rfl, rfl, rfl, hQ1, hD1⟩
   obtain ⟨hA1, hit⟩ := hO.del hD1
   subst hA1
   refine TrOps.eqV 47 rfl (show (.tuple #[u32 xq.item, .int .i64 xq.key, .bool true] : Value) = .tuple #[u32 ((twW r : Nat) : Int), .int .i64 xq.key, .bool true] by rw [hit]) ?_
   refine TrOps.asT 47 (vs := [u32 ((twW r : Nat) : Int), .int .i64 xq.key, .bool true]) rfl ?_
   refine TrOps.sem (OpSem.move (.inl rfl) rfl) rfl rfl (by decide) ?_
   refine TrOps.sem (OpSem.extract rfl rfl rfl) rfl rfl (by decide) ?_
   refine TrOps.sem (OpSem.extract rfl rfl rfl) rfl rfl (by decide) ?_
   refine TrOps.sem (OpSem.extract rfl rfl rfl) rfl rfl (by decide) ?_
   refine TrOps.semM (OpSem.alloc 12 rfl zc72 rfl) rfl rfl (by decide) ?_
   refine TrOps.storeb rfl rfl rfl rfl rfl rfl rfl vs72 (by first | decide | simp) ?_
   refine TrOps.sem (OpSem.move (.inr rfl) rfl) rfl rfl (by decide) ?_
   refine TrOps.sem (OpSem.move (.inr rfl) rfl) rfl rfl (by decide) ?_
   refine TrOps.nil ?_
   refine AtD.seq ?_
   refine TrD.seq ?_
   refine TrD.seq ?_
   refine TrD.region ?_
   refine TrOps.sem (OpSem.move (.inl rfl) rfl) rfl rfl (by decide) ?_
   refine TrOps.sem (OpSem.loadb1 rfl rfl rfl vs72 rfl) rfl rfl (by decide) ?_
   refine TrOps.callI (hs := []) (kd := 5053) (F := fo []) ((space_Words_Goal_does twT (sv := sv) (twW r) tw_24 (by decide +kernel)).toM0 (ds := [(ptr bw ow, .p [.v (.int .u32 (wdF twT.ini : Int)), .v (.int .u32 (wdF twT.goal : Int)), .v sv])]) rfl (fun i v s h1 h2 => by rcases i with _ | _ | i <;> simp at h1 h2 <;> subst h1 h2 <;> simp) rfl) (fun v xs w => by kernel_rfl) rfl rfl rfl (by decide) rfl rfl (fun H => rfl) rfl (by decide) (by decide) (.nil) (.cons 1001 rfl (.head _) .nil) ?_ (by decide)
   rintro _ _ _ ⟨rfl, rfl, rfl⟩
   refine TrOps.nil ?_
   refine AtD.seq ?_
   refine TrD.cond rfl (fun c53 => ?_) (fun c53 => ?_)
   ·have hr2 : r = 2 := (tw_goal hr).1 (of_decide_eq_true c53)
    subst hr2
    refine TrD.seq ?_
    refine TrD.region ?_
    refine TrOps.sem (OpSem.loadb1 rfl rfl rfl vs131 rfl) rfl rfl (by decide) ?_
    refine TrOps.sem (OpSem.move (.inl rfl) rfl) rfl rfl (by decide) ?_
    refine TrOps.sem (OpSem.loadb1 rfl rfl rfl vs72 rfl) rfl rfl (by decide) ?_
    refine TrOps.callM (hs := [71]) (kd := 5057) (F := fo [oneO bq2 (.m (twB 2))]) (space_Path_uint32_M (bq := bq2)) rfl rfl rfl (by decide) rfl rfl (fun H => rfl) rfl (by decide) (by decide) (.cons rfl <| .nil) .nil ?_ (by decide)
    rintro lv _ _ ⟨rfl, rfl⟩
    refine TrOps.sem (OpSem.move (.inl rfl) rfl) rfl rfl (by decide) ?_
    refine TrOps.sem (OpSem.lenMO (h := 73) rfl rfl rfl oneO_s mt132) rfl rfl (by decide) ?_
    refine TrOps.sem (OpSem.move (.inr rfl) rfl) rfl rfl (by decide) ?_
    refine TrOps.sem (OpSem.move (.inr rfl) rfl) rfl rfl (by decide) ?_
    refine TrOps.sem (OpSem.move (.inr rfl) rfl) rfl rfl (by decide) ?_
    refine TrOps.nil ?_
    refine AtD.seq ?_
    refine TrD.ret ?_
    refine AtD.pass_ret ?_
    refine AtD.block_ret ?_
    refine AtD.pass_ret ?_
    refine AtD.block_ret ?_
    refine AtD.pass_ret ?_
    exact AtD.retM (F' := fo [oneO km (.m (wMp Kn))]) (ds' := [(lv, .d (ints [0, 1]))]) (v := .tuple #[lv, .int .i64 2, .bool true]) (.inl rfl) rfl (.tmp rfl <| .tmp rfl <| .tmp rfl <| .nil) (fun H => rfl) (.cons rfl <| .nil) (.cons 5057 rfl (.head _) .nil) rfl rfl rfl (⟨lv, Kn, rfl, rfl, rfl⟩)
   ·have hr1 : r ≤ 1 := by (have h : ¬ r = 2 := fun e => of_decide_eq_false c53 ((tw_goal hr).2 e)); omega
    refine TrD.skip ?_
    refine AtD.seq ?_
    refine TrD.seq ?_
    refine TrD.region ?_
    refine TrOps.sem (OpSem.move (.inl rfl) rfl) rfl rfl (by decide) ?_
    refine TrOps.sem (OpSem.loadb1 rfl rfl rfl vs72 rfl) rfl rfl (by decide) ?_
    refine TrOps.sem (OpSem.build rfl rfl pl134 zc134 rfl rfl) rfl rfl (by decide) ?_
    refine TrOps.ofSt0' (OpSt.putO (h := 73) (l := (seeM (twE r))) (n := ((twW r : Nat) : Int)) (v := .agg #[]) (F' := oneO be (.m (seeM (twE (r + 1))))) (.inl rfl) rfl rfl rfl (fun H => rfl) oneO_s mt132 iu72 (by rw [updO_one, tw_seen hr1])) rfl rfl rfl ?_
    refine TrOps.nil ?_
    refine AtD.seq ?_
    refine TrD.seq ?_
    refine TrD.region ?_
    refine TrOps.sem (OpSem.move (.inl rfl) rfl) rfl rfl (by decide) ?_
    refine TrOps.sem (OpSem.loadb1 rfl rfl rfl vs72 rfl) rfl rfl (by decide) ?_
    refine TrOps.callI (hs := []) (kd := 5065) (F := fo []) (space_Words_Steps_M (s := (twW r))) (fun v xs w => by kernel_rfl) rfl rfl rfl (by decide) rfl rfl (fun H => rfl) rfl (by decide) (by decide) (.nil) .nil ?_ (by decide)
    rintro _ _ _ ⟨x1, x2, rfl, rfl, rfl⟩
    refine TrOps.nil ?_
    refine AtD.seq ?_
    refine TrD.block ?_
    refine TrD.range (Y := BsY) (n := twN r) (gf := 81) (lb := [x1, x2]) (enc := fun j => stV twT (twW r) (nth (opL twT (twW r)) j)) [(0, .d (.v (.iface 66 (ptr bw ow)))), (3, .r 3 0), (7, .d (.v (.int .u32 (((twW 0 : Nat) : Int))))), (8, .r 8 0), (9, .r 9 0), (10, .r 10 0), (11, .d (.v (.map (some be)))), (12, .r 12 0)] (fun k y => [(0, poM (oneO km (.m (wMp y.K)))), (70, poM (oneO bp (.m (wMp (twP (twI r k)))))), (71, poM (oneO bq2 (.m (twB (twI r k))))), (62, poM (oneO q (.c Tq [plV y.p y.A.length, .map (some bq), .int .i64 (y.tm)]))), (63, poM (plMe 160 y.p (arrV y.A))), (64, poM (enF y.A)), (65, poM (oneO bq (.m y.m))), (73, poM (oneO be (.m (seeM (twE (r + 1)))))), (3, .box [.d (.v (.func (.func 59) #[] #[c1, c2, c3]))]), (8, .box [.d (.v (.map (some bp)))]), (9, .box [.d (.v (.map (some bq2)))]), (10, .box [.d (.v (ptr q 0))]), (12, .box [.d (.v (.int .u32 (((twW r : Nat) : Int))))]), (999, .any (restK Oc W)), (1000, .fr (frK Oc W)), (1001, .fr (dsS [(ptr bw ow, .p [.v (.int .u32 (wdF twT.ini : Int)), .v (.int .u32 (wdF twT.goal : Int)), .v sv]), (sv, .d (mssD twT.ops)), (c1, .p [.v (.map (some km))]), (c2, .p [.v (.int .i64 twT.facts), ints twT.ini, ints twT.goal, sopsD twT.ops]), (c3, .p [.v (.int .i64 4)])]))]) (fun k y => QInv y.p y.A y.m ∧ KOk twT y.K ∧ (if k = twN r then QOne y.A (twW (r + 1)) else y.A = [])) ⟨Kn, p1, [], m1, tm⟩ (fun k => .g [I (((twO r k : Nat) : Int)), I (twC r k), .d (.v (.int .u32 (((twTo r k : Nat) : Int))))]) rfl (fun O H a w hst => space_Words_Steps_1_seq twT twT_v (twW r) tw_24 (DsIn.rep hst (.cons 5065 rfl (.head _) <| .cons 5065 rfl (.tail _ (.head _)) <| .cons 1001 rfl (.head _) <| .cons 1001 rfl (.tail _ (.head _)) .nil))) Tryz.call81 ⟨hQ1, hK, by rw [if_neg (by have := tw_n0 hr1; omega)]⟩ ?_ rfl rfl rfl (by decide) rfl rfl rfl rfl rfl (fun k y => ⟨rfl, rfl⟩) (fun k O H w => stV_rep) ?_ ?_
    ·exact .slot rfl (.refl _) <| .slot rfl (.refl _) <| .slot rfl (.refl _) <| .slot rfl (.refl _) <| .slot rfl (.refl _) <| .slot rfl (.refl _) <| .slot rfl (.refl _) <| .slot rfl (.refl _) <| .mem rfl <| .memEq rfl (by rw [twI_lt (tw_n0 hr1)] <;> rfl) <| .memEq rfl (by rw [twI_lt (tw_n0 hr1)] <;> rfl) <| .mem rfl <| .mem rfl <| .mem rfl <| .mem rfl <| .mem rfl <| .mem rfl <| .mem rfl <| .mem rfl <| .mem rfl <| .mem rfl <| .mem rfl <| .mem rfl <| .mem rfl <| .nil
    ·rintro k y lz r0 r1 ds2 Kz hk hp hlz
     obtain ⟨K2, p2, A2, m2, tm2⟩ := y
     have hQ2 : QInv p2 A2 m2 := hp.1
     have hK2 : KOk twT K2 := hp.2.1
     have hA2 : A2 = [] := by have h := hp.2.2; rwa [if_neg (by omega)] at h
     subst hA2
     clear hp
     obtain ⟨⟨hc0, hc1, hp0, hp1, ht24⟩, hor⟩ := tw_step hr1 hk
     refine Tr.memEq (h := 70) (m' := poM (oneO bp (.m (wMp (twP r))))) rfl (by rw [twI_lt hk]) ?_
     refine Tr.memEq (h := 71) (m' := poM (oneO bq2 (.m (twB r)))) rfl (by rw [twI_lt hk]) ?_
     refine Tr.region ?_
     refine TrOps.semM (OpSem.alloc 15 rfl zc117 rfl) rfl rfl (by decide) ?_
     refine TrOps.storeb rfl rfl rfl rfl rfl rfl rfl vs117 (by first | decide | simp) ?_
     refine TrOps.nil ?_
     refine At.begR (e1 := [(0, .d (.v (.iface 66 (ptr bw ow)))), (3, .r 3 0), (7, .d (.v (.int .u32 (((twW 0 : Nat) : Int))))), (8, .r 8 0), (9, .r 9 0), (10, .r 10 0), (11, .d (.v (.map (some be)))), (12, .r 12 0), (15, .r 15 0)]) (M1 := [(9002, .any (dsK Oc W ds2)), (9003, .fr Kz), (0, poM (oneO km (.m (wMp K2)))), (70, poM (oneO bp (.m (wMp (twP r))))), (71, poM (oneO bq2 (.m (twB r)))), (62, poM (oneO q (.c Tq [plV p2 [].length, .map (some bq), .int .i64 (tm2)]))), (63, poM (plMe 160 p2 (arrV []))), (64, poM (enF [])), (65, poM (oneO bq (.m m2))), (73, poM (oneO be (.m (seeM (twE (r + 1)))))), (3, .box [.d (.v (.func (.func 59) #[] #[c1, c2, c3]))]), (8, .box [.d (.v (.map (some bp)))]), (9, .box [.d (.v (.map (some bq2)))]), (10, .box [.d (.v (ptr q 0))]), (12, .box [.d (.v (.int .u32 (((twW r : Nat) : Int))))]), (999, .any (restK Oc W)), (1000, .fr (frK Oc W)), (1001, .fr (dsS [(ptr bw ow, .p [.v (.int .u32 (wdF twT.ini : Int)), .v (.int .u32 (wdF twT.goal : Int)), .v sv]), (sv, .d (mssD twT.ops)), (c1, .p [.v (.map (some km))]), (c2, .p [.v (.int .i64 twT.facts), ints twT.ini, ints twT.goal, sopsD twT.ops]), (c3, .p [.v (.int .i64 4)])])), (15, .box [I (((twO r k : Nat) : Int)), I (twC r k), .d (.v (.int .u32 (((twTo r k : Nat) : Int))))])]) (.slot rfl (.refl _) <| .slot rfl (.refl _) <| .slot rfl (.refl _) <| .slot rfl (.refl _) <| .slot rfl (.refl _) <| .slot rfl (.refl _) <| .slot rfl (.refl _) <| .slot rfl (.refl _) <| .slot rfl (.refl _) <| .mem rfl <| .mem rfl <| .mem rfl <| .mem rfl <| .mem rfl <| .mem rfl <| .mem rfl <| .mem rfl <| .mem rfl <| .mem rfl <| .mem rfl <| .mem rfl <| .mem rfl <| .mem rfl <| .mem rfl <| .mem rfl <| .mem rfl <| .mem rfl <| .mem rfl <| .mem rfl <| .nil) hlz ?_
     refine Tr.block ?_
     refine Tr.seq ?_
     refine PC.start [] ?_
     refine PC.sem (OpSem.loadb1 rfl rfl rfl vs70 rfl) rfl rfl ?_
     refine PC.sem (OpSem.loadb1 rfl rfl rfl vs72 rfl) rfl rfl ?_
     refine PC.sem (OpSem.lookO (h := 70) (l := wMp (twP r)) (n := ((twW r : Nat) : Int)) (v := .int .i64 (wF (twP r) (twW r))) rfl rfl rfl rfl oneO_s mt70 iu72 zw3 look_v) rfl rfl ?_
     refine PC.sem (OpSem.fieldr rfl rfl fo117_1) rfl rfl ?_
     refine PC.sem (OpSem.loadb1 rfl rfl rfl vs3 rfl) rfl rfl ?_
     refine PC.sem (OpSem.call0 (space_Price_does (twC r k) hc0 hc1) rfl rfl rfl rfl (Les.refl _)) rfl rfl ?_
     refine PC.done0 mixed (by kernel_rfl) (by kernel_rfl) (by kernel_rfl) (by kernel_rfl) (by kernel_rfl) ?_
     refine TrOps.sem (OpSem.bin rfl rfl rfl (badd (by omega) (by omega))) rfl rfl (by decide) ?_
     refine TrOps.sem (OpSem.move (.inr rfl) rfl) rfl rfl (by decide) ?_
     refine TrOps.nil ?_
     refine At.seq ?_
     refine Tr.seq ?_
     refine Tr.seq ?_
     refine Tr.region ?_
     refine TrOps.sem (OpSem.loadb1 rfl rfl rfl vs70 rfl) rfl rfl (by decide) ?_
     refine TrOps.sem (OpSem.fieldr rfl rfl fo117_2) rfl rfl (by decide) ?_
     refine TrOps.sem (OpSem.loadb1 rfl rfl rfl vs72 rfl) rfl rfl (by decide) ?_
     refine TrOps.sem (OpSem.lookO2 (h := 70) (l := wMp (twP r)) (n := ((twTo r k : Nat) : Int)) (v := .int .i64 (wF (twP r) (twTo r k))) (f := (wAt (twP r) (twTo r k)).isSome) rfl rfl rfl rfl oneO_s mt70 iu72 zw3 look_v look_s) rfl rfl (by decide) ?_
     refine TrOps.sem (OpSem.move (.inl rfl) rfl) rfl rfl (by decide) ?_
     refine TrOps.sem (OpSem.extract rfl rfl rfl) rfl rfl (by decide) ?_
     refine TrOps.sem (OpSem.extract rfl rfl rfl) rfl rfl (by decide) ?_
     refine TrOps.sem (OpSem.move (.inr rfl) rfl) rfl rfl (by decide) ?_
     refine TrOps.sem (OpSem.move (.inr rfl) rfl) rfl rfl (by decide) ?_
     refine TrOps.nil ?_
     refine At.seq ?_
     refine Tr.seq ?_
     refine Tr.region ?_
     refine TrOps.sem (OpSem.move (.inl rfl) rfl) rfl rfl (by decide) ?_
     refine TrOps.sem (OpSem.move (.inl rfl) rfl) rfl rfl (by decide) ?_
     refine TrOps.split (n := 82) rfl (fun c82 => ?_) (fun c82 => ?_)
     ·obtain ⟨hsn, hle, hlt⟩ := hor.resolve_right (fun h => by rw [h.1] at c82; cases c82)
      refine TrOps.gT rfl rfl rfl rfl c82 ?_
      refine TrOps.sem (OpSem.move (.inl rfl) rfl) rfl rfl (by decide) ?_
      refine TrOps.gT rfl rfl rfl rfl c82 ?_
      refine TrOps.sem (OpSem.move (.inl rfl) rfl) rfl rfl (by decide) ?_
      refine TrOps.gT rfl rfl rfl rfl c82 ?_
      refine TrOps.sem (OpSem.bin rfl rfl rfl bleq) rfl rfl (by decide) ?_
      refine TrOps.sem (OpSem.pickT rfl rfl c82 rfl) rfl rfl (by decide) ?_
      refine TrOps.sem (OpSem.move (.inl rfl) rfl) rfl rfl (by decide) ?_
      refine TrOps.gF rfl rfl rfl rfl (decide_eq_true hle) rfl (by decide) ?_
      refine TrOps.gF rfl rfl rfl rfl (decide_eq_true hle) rfl (by decide) ?_
      refine TrOps.gF rfl rfl rfl rfl (decide_eq_true hle) rfl (by decide) ?_
      refine TrOps.gF rfl rfl rfl rfl (decide_eq_true hle) rfl (by decide) ?_
      refine TrOps.gF rfl rfl rfl rfl (decide_eq_true hle) rfl (by decide) ?_
      refine TrOps.sem (OpSem.pickT rfl rfl (decide_eq_true hle) rfl) rfl rfl (by decide) ?_
      refine TrOps.nil ?_
      refine At.seq ?_
      refine Tr.condT rfl rfl ?_
      refine Tr.exit ?_
      refine At.pass_exit ?_
      refine At.block_same ?_
      refine At.endR ⟨K2, p2, [], m2, tm2⟩ ⟨hQ2, hK2, by rw [if_neg (by omega)]⟩ ?_
      exact .slot rfl (.refl _) <| .slot rfl (.refl _) <| .slot rfl (.refl _) <| .slot rfl (.refl _) <| .slot rfl (.refl _) <| .slot rfl (.refl _) <| .slot rfl (.refl _) <| .slot rfl (.refl _) <| .mem rfl <| .mem rfl <| .mem rfl <| .mem rfl <| .memEq rfl (by rw [twI_lt (by omega)]) <| .memEq rfl (by rw [twI_lt (by omega)]) <| .mem rfl <| .mem rfl <| .mem rfl <| .mem rfl <| .mem rfl <| .mem rfl <| .mem rfl <| .mem rfl <| .mem rfl <| .mem rfl <| .mem rfl <| .mem rfl <| .mem rfl <| .nil
     ·obtain ⟨hsn, hen, hto, hpu, hbu⟩ := hor.resolve_left (fun h => by rw [h.1] at c82; cases c82)
      have hcutT : 0 ≤ (cutW twT (fctW (twTo r k))).2 ∧ (cutW twT (fctW (twTo r k))).2 ≤ 4000 := by rw [hto]; exact hcut (r + 1) (by omega)
      refine TrOps.gF rfl rfl rfl rfl c82 rfl (by decide) ?_
      refine TrOps.gF rfl rfl rfl rfl c82 rfl (by decide) ?_
      refine TrOps.gF rfl rfl rfl rfl c82 rfl (by decide) ?_
      refine TrOps.sem (OpSem.pickF rfl rfl c82 rfl) rfl rfl (by decide) ?_
      refine TrOps.sem (OpSem.move (.inl rfl) rfl) rfl rfl (by decide) ?_
      refine TrOps.gT rfl rfl rfl rfl rfl ?_
      refine TrOps.sem (OpSem.loadb1 rfl rfl rfl vs79 rfl) rfl rfl (by decide) ?_
      refine TrOps.gT rfl rfl rfl rfl rfl ?_
      refine TrOps.sem (OpSem.fieldr rfl rfl fo117_2) rfl rfl (by decide) ?_
      refine TrOps.gT rfl rfl rfl rfl rfl ?_
      refine TrOps.sem (OpSem.loadb1 rfl rfl rfl vs72 rfl) rfl rfl (by decide) ?_
      refine TrOps.gT rfl rfl rfl rfl rfl ?_
      refine TrOps.callC (hs := [0]) (kd := 5091) (F := fo [oneO km (.m (wMp K2))]) (args := [u32 (((twTo r k) : Nat) : Int)]) (caps := [c1, c2, c3]) (astar_Heuristic_1_M twT hK2 (twTo r k) (by omega)) rfl rfl rfl (by decide) rfl rfl (fun H => rfl) rfl (by decide) (by decide) (.cons rfl <| .nil) (.cons 1001 rfl (.tail _ (.tail _ (.head _))) <| .cons 1001 rfl (.tail _ (.tail _ (.tail _ (.head _)))) <| .cons 1001 rfl (.tail _ (.tail _ (.tail _ (.tail _ (.head _))))) .nil) ?_ (by decide)
      rintro _ _ _ ⟨K3, rfl, rfl, rfl, hK3, hs3⟩
      refine TrOps.gT rfl rfl rfl rfl rfl ?_
      refine TrOps.sem (OpSem.bin rfl rfl rfl bgeq) rfl rfl (by decide) ?_
      refine TrOps.sem (OpSem.pickF rfl rfl rfl rfl) rfl rfl (by decide) ?_
      refine TrOps.nil ?_
      refine At.seq ?_
      refine Tr.condF rfl (decide_eq_false (by omega)) ?_
      refine Tr.skip ?_
      refine At.seq ?_
      refine Tr.seq ?_
      refine Tr.region ?_
      refine TrOps.sem (OpSem.loadb1 rfl rfl rfl vs70 rfl) rfl rfl (by decide) ?_
      refine TrOps.sem (OpSem.fieldr rfl rfl fo117_2) rfl rfl (by decide) ?_
      refine TrOps.sem (OpSem.loadb1 rfl rfl rfl vs72 rfl) rfl rfl (by decide) ?_
      refine TrOps.sem (OpSem.move (.inl rfl) rfl) rfl rfl (by decide) ?_
      refine TrOps.ofSt0' (OpSt.putO (h := 70) (l := (wMp (twP r))) (n := ((twTo r k : Nat) : Int)) (v := .int .i64 (twG r k)) (F' := oneO bp (.m (wMp (twP (r + 1))))) (.inl rfl) rfl rfl rfl (fun H => rfl) oneO_s mt70 iu72 (bk_put2.trans (by rw [hpu]))) rfl rfl rfl ?_
      refine TrOps.nil ?_
      refine At.seq ?_
      refine Tr.seq ?_
      refine Tr.region ?_
      refine TrOps.sem (OpSem.loadb1 rfl rfl rfl vs131 rfl) rfl rfl (by decide) ?_
      refine TrOps.sem (OpSem.fieldr rfl rfl fo117_2) rfl rfl (by decide) ?_
      refine TrOps.sem (OpSem.loadb1 rfl rfl rfl vs72 rfl) rfl rfl (by decide) ?_
      refine TrOps.sem (OpSem.loadb1 rfl rfl rfl vs72 rfl) rfl rfl (by decide) ?_
      refine TrOps.sem (OpSem.fieldr rfl rfl fo117_0) rfl rfl (by decide) ?_
      refine TrOps.sem (OpSem.loadb1 rfl rfl rfl vs3 rfl) rfl rfl (by decide) ?_
      refine TrOps.sem (OpSem.build rfl rfl pl130 zc130 rfl rfl) rfl rfl (by decide) ?_
      refine TrOps.ofSt0' (OpSt.putO (h := 71) (l := (twB r)) (n := ((twTo r k : Nat) : Int)) (v := bkV (twW r : Nat) (twO r k : Nat)) (F' := oneO bq2 (.m (twB (r + 1)))) (.inl rfl) rfl rfl rfl (fun H => rfl) oneO_s mt131 iu72 (by rw [updO_one, hbu])) rfl rfl rfl ?_
      refine TrOps.nil ?_
      refine At.seq ?_
      refine PC.start [] ?_
      refine PC.sem (OpSem.loadb1 rfl rfl rfl vs109 rfl) rfl rfl ?_
      refine PC.sem (OpSem.fieldr rfl rfl fo117_2) rfl rfl ?_
      refine PC.sem (OpSem.loadb1 rfl rfl rfl vs72 rfl) rfl rfl ?_
      refine PC.sem (OpSem.move (.inl rfl) rfl) rfl rfl ?_
      refine PC.sem (OpSem.loadb1 rfl rfl rfl vs79 rfl) rfl rfl ?_
      refine PC.sem (OpSem.fieldr rfl rfl fo117_2) rfl rfl ?_
      refine PC.sem (OpSem.loadb1 rfl rfl rfl vs72 rfl) rfl rfl ?_
      refine PC.sem (OpSem.callZ (caps := [c1, c2, c3]) (vs := [u32 (((twTo r k) : Nat) : Int)]) (astar_Heuristic_1_does twT K3 (twTo r k) _ hs3) rfl rfl (cap_rep (t := twT) (h0 := 0) (h1 := 1001) rfl rfl (fun p hp => by simp only [List.mem_cons, List.not_mem_nil, or_false] at hp; rcases hp with rfl | rfl | rfl <;> simp)) rfl rfl rfl (fun H => rfl)) rfl rfl ?_
      refine PC.sem (OpSem.bin rfl rfl rfl (bmul (by omega) (by omega))) rfl rfl ?_
      refine PC.sem (OpSem.bin rfl rfl rfl (badd (by omega) (by omega))) rfl rfl ?_
      refine PC.done0 mixed (by kernel_rfl) (by kernel_rfl) (by kernel_rfl) (by kernel_rfl) (by kernel_rfl) ?_
      refine TrOps.callM (hs := [62, 63, 64, 65]) (kd := 5115) (F := qF q Tq bq (tm2) p2 [] m2) (openlist_Queue_uint32_Set_M (item := (twTo r k)) (key := (twG r k) + 4096 * (cutW twT (fctW (twTo r k))).2) hQ2 (by simp)) rfl rfl rfl (by decide) rfl rfl (fun H => rfl) rfl (by decide) (by decide) (.cons rfl <| .cons rfl <| .cons rfl <| .cons rfl <| .nil) .nil ?_ (by decide)
      rintro _ _ _ ⟨p3, A3, m3, rfl, rfl, rfl, hQ3, hU3⟩
      refine TrOps.nil ?_
      refine At.block_normal ?_
      refine At.endR ⟨K3, p3, A3, m3, IntKind.i64.wrap (tm2 + 1)⟩ ⟨hQ3, hK3, by rw [if_pos hen, ← hto]; exact QOne.new hU3⟩ ?_
      exact .slot rfl (.refl _) <| .slot rfl (.refl _) <| .slot rfl (.refl _) <| .slot rfl (.refl _) <| .slot rfl (.refl _) <| .slot rfl (.refl _) <| .slot rfl (.refl _) <| .slot rfl (.refl _) <| .mem rfl <| .mem rfl <| .mem rfl <| .mem rfl <| .memEq rfl (by rw [hen, twI_end]) <| .memEq rfl (by rw [hen, twI_end]) <| .mem rfl <| .mem rfl <| .mem rfl <| .mem rfl <| .mem rfl <| .mem rfl <| .mem rfl <| .mem rfl <| .mem rfl <| .mem rfl <| .mem rfl <| .mem rfl <| .mem rfl <| .nil
    ·rintro y ds2 hp
     obtain ⟨K2, p2, A2, m2, tm2⟩ := y
     have hQ2 : QInv p2 A2 m2 := hp.1
     have hK2 : KOk twT K2 := hp.2.1
     have hA2 : QOne A2 (twW (r + 1)) := by have h := hp.2.2; rwa [if_pos rfl] at h
     refine AtD.block_normal ?_
     refine AtD.block_normal ?_
     refine AtD.again ⟨r + 1, K2, p2, A2, m2, tm2⟩ ⟨by simp; omega, hQ2, hA2, hK2⟩ ?_ (by simp; omega)
     exact .slot rfl (.refl _) <| .slot rfl (.refl _) <| .slot rfl (.refl _) <| .slot rfl (.refl _) <| .slot rfl (.refl _) <| .slot rfl (.refl _) <| .slot rfl (.refl _) <| .mem rfl <| .mem rfl <| .memEq rfl (by rw [twI_end]) <| .memEq rfl (by rw [twI_end]) <| .mem rfl <| .mem rfl <| .mem rfl <| .mem rfl <| .mem rfl <| .mem rfl <| .mem rfl <| .mem rfl <| .mem rfl <| .mem rfl <| .mem rfl <| .mem rfl <| .nil
  ·exact absurd c44 (by rw [hO.1]; decide)
end Go.Proofs.YtgophedpkiidkaaGreat
end

section
namespace Go.Eng
def szT (l : List Int) (k : Nat) : Int := (l.take k).sum
theorem szT_0 {l : List Int} : szT l 0 = 0 := by simp [szT]
theorem szT_s {l : List Int} {k : Nat} (h : k < l.length) : szT l (k + 1) = szT l k + nth l k := by
 unfold szT
 rw [List.take_succ_eq_append_getElem h, List.sum_append, nth_eq h]; simp
theorem szT_in {l : List Int} (hs : SizesP l) : ∀ {k : Nat}, k ≤ l.length → 0 ≤ szT l k ∧ szT l k ≤ 6 * k
 | 0, _ => by simp [szT_0]
 | k + 1, h => by
  have h1 := szT_in hs (k := k) (by omega)
  have h2 := hs k (by omega)
  rw [szT_s (by omega)]; omega
theorem szT_mono {l : List Int} (hs : SizesP l) : ∀ {k j : Nat}, k < j → j ≤ l.length → szT l k + nth l k ≤ szT l j
 | k, 0, h, _ => by omega
 | k, j + 1, h, hj => by
  rw [szT_s (by omega)]
  have h2 := hs j (by omega)
  by_cases e : k = j
  ·subst e; omega
  ·have := szT_mono hs (k := k) (j := j) (by omega) (by omega); omega
def bsT (l : List Int) (k : Nat) : List Int := (List.range k).map fun i : Nat => szT l i
abbrev bsL (l : List Int) : List Int := bsT l l.length
theorem bsT_len {l : List Int} {k : Nat} : (bsT l k).length = k := by simp [bsT]
theorem bsT_s {l : List Int} {k : Nat} : bsT l k ++ [szT l k] = bsT l (k + 1) := by simp [bsT, List.range_succ]
theorem bsT_at {l : List Int} {k n : Nat} (h : k < n) : nth (bsT l n) k = szT l k := by
 rw [nth_eq (by rw [bsT_len]; exact h)]; simp [bsT]
theorem bs_at {l : List Int} {v : Int} (h0 : 0 ≤ v) (h1 : v < l.length) : nth (bsL l) v = szT l v.toNat := by
 obtain ⟨k, rfl⟩ := Int.eq_ofNat_of_zero_le h0
 exact bsT_at (by omega)
theorem bs_in {l : List Int} (hs : SizesP l) (hl : l.length ≤ 8) {v : Int} (h0 : 0 ≤ v) (h1 : v < l.length) : 0 ≤ nth (bsL l) v ∧ nth (bsL l) v ≤ 48 := by
 rw [bs_at h0 h1]
 have := szT_in hs (k := v.toNat) (by omega); omega
def fcL (b : List Int) (l : List Asg) : List Int := l.map fun a => nth b a.1 + a.2
theorem fc_take {b : List Int} {l : List Asg} {k : Nat} (h : k < l.length) : fcL b (l.take k) ++ [nth b (nth l k).1 + (nth l k).2] = fcL b (l.take (k + 1)) := by
 unfold fcL; rw [List.take_succ_eq_append_getElem h, List.map_append, nth_eq h]; rfl
theorem fcL_len {b : List Int} {l : List Asg} : (fcL b l).length = l.length := by simp [fcL]
def dl1 (b : List Int) (a : Asg) : Nat → List Int
 | 0 => []
 | k + 1 => if (k : Int) = a.2 then dl1 b a k else dl1 b a k ++ [nth b a.1 + k]
theorem dl1_t {b : List Int} {a : Asg} {k : Nat} (h : (k : Int) = a.2) : dl1 b a (k + 1) = dl1 b a k := by rw [dl1, if_pos h]
theorem dl1_f {b : List Int} {a : Asg} {k : Nat} (h : (k : Int) ≠ a.2) : dl1 b a (k + 1) = dl1 b a k ++ [nth b a.1 + k] := by rw [dl1, if_neg h]
theorem dl1_len {b : List Int} {a : Asg} : ∀ {k : Nat}, (dl1 b a k).length ≤ k
 | 0 => Nat.le_refl _
 | k + 1 => by
  have := dl1_len (b := b) (a := a) (k := k)
  rw [dl1]; split
  ·omega
  ·simp; omega
theorem dl1_mem {b : List Int} {a : Asg} {p : Int} : ∀ {k : Nat}, p ∈ dl1 b a k ↔ ∃ x : Nat, x < k ∧ (x : Int) ≠ a.2 ∧ p = nth b a.1 + x
 | 0 => by simp [dl1]
 | k + 1 => by
  have ih := dl1_mem (b := b) (a := a) (p := p) (k := k)
  by_cases h : (k : Int) = a.2
  ·rw [dl1_t h, ih]
   constructor
   ·rintro ⟨x, h1, h2⟩; exact ⟨x, by omega, h2⟩
   ·rintro ⟨x, h1, h2, h3⟩
    by_cases e : x = k
    ·subst e; exact absurd h h2
    ·exact ⟨x, by omega, h2, h3⟩
  ·rw [dl1_f h, List.mem_append, ih, List.mem_singleton]
   constructor
   ·rintro (⟨x, h1, h2⟩ | h1)
    ·exact ⟨x, by omega, h2⟩
    ·exact ⟨k, by omega, h, h1⟩
   ·rintro ⟨x, h1, h2, h3⟩
    by_cases e : x = k
    ·subst e; exact .inr h3
    ·exact .inl ⟨x, by omega, h2, h3⟩
def dlT (sizes : List Int) (l : List Asg) : Nat → List Int
 | 0 => []
 | k + 1 => dlT sizes l k ++ dl1 (bsL sizes) (nth l k) (nth sizes (nth l k).1).toNat
abbrev dlL (sizes : List Int) (l : List Asg) : List Int := dlT sizes l l.length
theorem dlT_len {sizes : List Int} {l : List Asg} (hs : SizesP sizes) (hl : AsgsP sizes l) : ∀ {k : Nat}, k ≤ l.length → (dlT sizes l k).length ≤ 6 * k
 | 0, _ => Nat.le_refl _
 | k + 1, h => by
  have ih := dlT_len hs hl (k := k) (by omega)
  have h1 := hl k (by omega)
  have h2 := nth_size hs h1.1 h1.2.1
  have h3 := dl1_len (b := bsL sizes) (a := nth l k) (k := (nth sizes (nth l k).1).toNat)
  rw [dlT, List.length_append]; omega
theorem dlT_mem {sizes : List Int} {l : List Asg} {p : Int} : ∀ {k : Nat}, p ∈ dlT sizes l k ↔ ∃ j : Nat, j < k ∧ p ∈ dl1 (bsL sizes) (nth l j) (nth sizes (nth l j).1).toNat
 | 0 => by simp [dlT]
 | k + 1 => by
  rw [dlT, List.mem_append, dlT_mem]
  constructor
  ·rintro (⟨j, h1, h2⟩ | h1)
   ·exact ⟨j, by omega, h2⟩
   ·exact ⟨k, by omega, h1⟩
  ·rintro ⟨j, h1, h2⟩
   by_cases e : j = k
   ·subst e; exact .inr h2
   ·exact .inl ⟨j, by omega, h2⟩
def strO (sizes : List Int) (o : MOp) : SOp := ⟨fcL (bsL sizes) o.pre, fcL (bsL sizes) o.post, dlL sizes o.post, o.cost⟩
def iniT (sizes s : List Int) (k : Nat) : List Int := (List.range k).map fun v : Nat => nth (bsL sizes) v + nth s v
theorem iniT_s {sizes s : List Int} {k : Nat} : iniT sizes s k ++ [nth (bsL sizes) k + nth s k] = iniT sizes s (k + 1) := by simp [iniT, List.range_succ]
theorem iniT_len {sizes s : List Int} {k : Nat} : (iniT sizes s k).length = k := by simp [iniT]
def strT (m : Multi) : Tsk := ⟨szT m.sizes m.sizes.length, iniT m.sizes m.init m.init.length, fcL (bsL m.sizes) m.goal, m.ops.map (strO m.sizes)⟩
def strF (m : Multi) : Int × Int := if validate m = (0, 0) then (if 24 < szT m.sizes m.sizes.length then (10, -8) else (0, 0)) else validate m
def strR (m : Multi) : Tsk := if strF m = (0, 0) then strT m else ⟨0, [], [], []⟩
theorem strF_1 {m : Multi} (h : validate m ≠ (0, 0)) : strF m = validate m ∧ strR m = ⟨0, [], [], []⟩ := by
 have : strF m = validate m := by unfold strF; rw [if_neg h]
 exact ⟨this, by unfold strR; rw [this, if_neg h]⟩
theorem strF_2 {m : Multi} (h : validate m = (0, 0)) (h2 : 24 < szT m.sizes m.sizes.length) : strF m = (10, -8) ∧ strR m = ⟨0, [], [], []⟩ := by
 have : strF m = (10, -8) := by unfold strF; rw [if_pos h, if_pos h2]
 exact ⟨this, by unfold strR; rw [this, if_neg (by decide)]⟩
theorem strF_3 {m : Multi} (h : validate m = (0, 0)) (h2 : ¬ 24 < szT m.sizes m.sizes.length) : strF m = (0, 0) ∧ strR m = strT m := by
 have : strF m = (0, 0) := by unfold strF; rw [if_pos h, if_neg h2]
 exact ⟨this, by unfold strR; rw [this, if_pos rfl]⟩
theorem str_take {sizes : List Int} {l : List MOp} {k : Nat} {f : SOp → List D} (h : k < l.length) : ((l.take k).map (strO sizes)).map f ++ [f (strO sizes (nth l k))] = ((l.take (k + 1)).map (strO sizes)).map f := by
 rw [List.take_succ_eq_append_getElem h, nth_eq h, List.map_append, List.map_append]; rfl
end Go.Eng
end

section
namespace Go.Proofs.YtgophedpkiidkaaGreat
open Go.Eng
set_option maxRecDepth 10000
set_option maxHeartbeats 4000000
theorem multi_Base_does (sizes : List Int) (hs : SizesP sizes) (hz : sizes.length ≤ 8) : Does Tryz.prog false 38 [.d (ints sizes)] (.t [.d (ints (bsL sizes)), I (szT sizes sizes.length)]) := by
 refine Does.of_body Tryz.func38 rfl rfl (by simp) Tryz.call38 (fun w0 O0 => ?_); refine .le 0 fun len0 => ?_; refine .g <| .r <| .a ?_; refine .a ?_; refine .z <| .a ?_; refine .sq <| .g <| .ownNil (n := 4) 4 1 3 rfl ?_; refine .r <| .a ?_; refine .sq <| .g <| .g <| .r <| .m ?_; refine .x (.n es22) ?_; refine .m ?_; refine .sq <| .k <| .loop (X := Nat) (fun k => k ≤ sizes.length) (fun k => [(4, .o 4), (5, I (szT sizes k)), (8, .d (ints sizes)), (9, I (sizes.length)), (10, I (k))]) (fun k => [(4, .own 1 3 ((bsT sizes k).map fun n => [D.v (.int .i64 n)]))]) (fun k => sizes.length - k) 0 (by omega) ?_ ?_
 ·exact .sl <| .slot rfl (Le.i szT_0.symm) <| .p2 <| .slot rfl (Le.of_eq (by simp)) <| .memEq rfl (by simp [bsT]) <| .nil
 ·rintro k hkl
  refine .g <| .r <| .x (.b blss) ?_; refine .sq <| .g <| .cond rfl (fun c11 => ?_) (fun c11 => ?_)
  ·have hk : k < sizes.length := by simpa using c11
   have h1 := szT_in hs (k := k) (by omega)
   have h2 := hs k hk
   refine .p <| .g <| .g <| .k <| .g <| .r <| .x (.i es22) ?_; refine .x (.l1 vs3) ?_; refine .a ?_; refine .z <| .mm ?_; refine .x (.bs es22 ze22) ?_; refine .append rfl rfl rfl (by decide) rfl rfl rfl es22 el22 zc3 rfl by3 (by simp [D.one, Value.oneCell']) (by simp [maxLen, bsT_len]; omega) (by simp [bsT_len]; omega) ?_; refine .a ?_; refine .y <| .mm ?_; refine .x .ad ?_; refine .a ?_; refine .n <| .n <| .y <| .x .ad ?_; refine .m ?_; refine .n <| .again (k + 1) (by omega) ?_ (by omega); exact .sl <| .slot rfl (Le.i (szT_s hk).symm) <| .p2 <| .slot rfl (Le.of_eq (by simp)) <| .memEq rfl (by rw [← bsT_s]; simp) <| .nil
  ·have hk : k = sizes.length := by simp at c11; omega
   subst hk
   refine .u <| .u <| .u <| .b <| .g <| .g <| .freeze 4 rfl ?_; refine .r <| .mm ?_; refine .a ?_; refine .a ?_; exact .sq <| .t <| .ret rfl (.tmp rfl <| .tmp rfl <| .nil) rfl (.refl _)
theorem multi_facts_does (sizes : List Int) (l : List Asg) (hs : SizesP sizes) (hz : sizes.length ≤ 8) (hl : AsgsP sizes l) : DoesO Tryz.prog 39 [.d (ints (bsL sizes)), .d (asgs l)] 1 3 (((fcL (bsL sizes) l).map fun n => [D.v (.int .i64 n)])) := by
 have hll := asgs_len hl
 refine DoesO.of_body Tryz.func39 rfl rfl (by simp) Tryz.call39 (fun w0 O0 => ?_); refine .le 0 fun len0 => ?_; refine .le 1 fun len1 => ?_; refine .g <| .r <| .a ?_; refine .z <| .a ?_; refine .sq <| .g <| .g <| .ownNil (n := 5) 5 1 3 rfl ?_; refine .r <| .m ?_; refine .x (.n es23) ?_; refine .m ?_; refine .sq <| .k <| .loop (X := Nat) (fun k => k ≤ l.length) (fun k => [(0, .d (ints (bsL sizes))), (5, .o 5), (8, .d (asgs l)), (9, I (l.length)), (10, I (k))]) (fun k => [(5, .own 1 3 ((fcL (bsL sizes) (l.take k)).map fun n => [D.v (.int .i64 n)]))]) (fun k => l.length - k) 0 (by omega) ?_ ?_
 ·exact .p3 <| .sl <| .slot rfl (Le.of_eq (by simp)) <| .memEq rfl (by simp [fcL]) <| .nil
 ·rintro k hkl
  refine .g <| .r <| .x (.b blss) ?_; refine .sq <| .g <| .cond rfl (fun c11 => ?_) (fun c11 => ?_)
  ·have hk : k < l.length := by simpa using c11
   have ha := hl k hk
   have hb := bs_in hs hz ha.1 ha.2.1
   have hz2 := nth_size hs ha.1 ha.2.1
   refine .p <| .g <| .g <| .k <| .g <| .r <| .x (.i es23) ?_; refine .x (.lN vs87) ?_; refine .al 7 zc87 ?_; refine .sb vs87 ?_; refine .sq <| PC.start [] ?_; refine .mm ?_; refine .x (.f fo87_0) ?_; refine .x (.l vs3) ?_; refine .x (OpSem.idxL rfl rfl rfl es22 (by omega) (by rw [bsT_len]; omega)) ?_; refine .x (.l1 vs3) ?_; refine .x (.f fo87_1) ?_; refine .x (.l vs3) ?_; refine .x .ad ?_; refine .x (.bs es22 ze22) ?_; refine .d0 mixed ?_; refine .append rfl rfl rfl (by decide) rfl rfl rfl es22 el22 zc3 rfl by3 (by simp [D.one, Value.oneCell']) (by simp [maxLen, fcL_len]; omega) (by simp [fcL_len]; omega) ?_; refine .a ?_; refine .n <| .n <| .y <| .x .ad ?_; refine .m ?_; refine .n <| .again (k + 1) (by omega) ?_ (by omega); exact .p3 <| .sl <| .slot rfl (Le.of_eq (by simp)) <| .memEq rfl (by rw [← fc_take hk]; simp) <| .nil
  ·have hk : k = l.length := by simp at c11; omega
   subst hk
   refine .u <| .u <| .u <| .b <| .z <| .m ?_; refine .a ?_; exact .sq <| .t <| .retO2 rfl rfl rfl (by simp) (by simp)
theorem multi_Strips_does (m : Multi) : Does Tryz.prog false 16 [multi m] (.t [tskS (strR m), flt (strF m)]) := by
 refine Does.of_body Tryz.func16 rfl rfl (by simp) Tryz.call16 (fun w0 O0 => ?_); refine .lg 0 0 fun len0_0 => ?_; refine .lg 0 1 fun len0_1 => ?_; refine .lg 0 2 fun len0_2 => ?_; refine .lg 0 3 fun len0_3 => ?_; refine .g <| .r <| .bx 1 ?_; refine .al 2 zc43 ?_; refine .al 3 zc32 ?_; refine .sq <| .g <| .g <| .r <| .x (.L vs26) ?_; refine .x (OpSem.call0 (multi_Validate_does ..) rfl rfl rfl rfl (Les.refl _)) ?_; refine .al 4 zc32 ?_; refine .sb vs32 ?_; refine .z <| .x (.L vs32) ?_; refine .x (.bd pl32 zc32) ?_; refine .x (OpSem.neS2 rfl rfl rfl io32) ?_; refine .sq <| .cond rfl (fun c20 => ?_) (fun c20 => ?_)
 ·have hne : validate m ≠ (0, 0) := fun h => by simp [h] at c20
  refine .g <| PC.start [2] ?_; refine .x (.bd pl43 zc43) ?_; refine .x (.L vs32) ?_; refine .storeb 100002 rfl rfl rfl rfl rfl rfl rfl vs43 (by first | decide | simp) ?_; refine .dn mixed ?_; refine .sb vs32 ?_; exact .sq <| .t <| .t <| .ret rfl (.cellN rfl rfl vs43 <| .cellN rfl rfl vs32 <| .nil) rfl (Le.t (.cons (by rw [(strF_1 hne).2]; exact Le.g (.cons (.refl _) <| .cons (Le.nil 1) <| .cons (Le.nil 1) <| .cons (Le.nil 4) <| .nil)) <| .cons (Le.flt (strF_1 hne).1.symm) <| .nil))
 ·have h0 : validate m = (0, 0) := pair0 (by simpa using c20)
  have hv := valid_of h0
  have hz := hv.len.2
  have hil := hv.init.1
  have hol := hv.opsLen
  refine .p <| .z <| .x (.f fo26_0) ?_; refine .x (.l vs22) ?_; refine .x (OpSem.call0 (multi_Base_does m.sizes hv.sizes hv.len.2) rfl rfl rfl rfl (Les.refl _)) ?_; refine .m ?_; refine .x .xt ?_; refine .x .xt ?_; refine .a ?_; refine .a ?_; refine .sq <| .g <| .g <| .r <| .m ?_; refine .x (.b bgtr) ?_; refine .sq <| .cond rfl (fun c30 => ?_) (fun c30 => ?_)
  ·have h2 : 24 < szT m.sizes m.sizes.length := by simpa using c30
   refine .g <| .r <| .x (.bd pl43 zc43) ?_; refine .x (.bd pl32 zc32) ?_; refine .sb vs43 ?_; refine .sb vs32 ?_; exact .sq <| .t <| .t <| .ret rfl (.cellN rfl rfl vs43 <| .cellN rfl rfl vs32 <| .nil) rfl (Le.t (.cons (by rw [(strF_2 h0 h2).2]; exact Le.g (.cons (.refl _) <| .cons (Le.nil 1) <| .cons (Le.nil 1) <| .cons (Le.nil 4) <| .nil)) <| .cons (Le.flt (strF_2 h0 h2).1.symm) <| .nil))
  ·have h2 : ¬ 24 < szT m.sizes m.sizes.length := by simpa using c30
   refine .p <| .z <| .mm ?_; refine .x (.f fo26_2) ?_; refine .x (.l vs23) ?_; refine .x (OpSem.call0 (multi_facts_does m.sizes m.goal hv.sizes hv.len.2 hv.goal).fresh rfl rfl rfl rfl (Les.refl _)) ?_; refine .x (.bd pl43 zc43) ?_; refine .al 7 zc43 ?_; refine .sb vs43 ?_; refine .sq <| .g <| .g <| .ownNilBox 91 7 1 1 3 rfl rfl rfl ?_; refine .ownNilBox 92 7 3 4 75 rfl rfl rfl ?_; refine .r <| .x (.f fo26_1) ?_; refine .x (.l vs22) ?_; refine .x (.n es22) ?_; refine .m ?_; refine .sq <| .k <| .loop (X := Nat) (fun k => k ≤ m.init.length) (fun k => [(1, .r 1 0), (2, .r 2 0), (3, .r 3 0), (5, .d (ints (bsL m.sizes))), (7, .r 7 0), (40, .d (ints m.init)), (41, I (m.init.length)), (42, I (k))]) (fun k => [(7, .box [I (szT m.sizes m.sizes.length), .o 91, .d (ints (fcL (bsL m.sizes) m.goal)), .o 92]), (91, .own 1 3 ((iniT m.sizes m.init k).map fun n => [D.v (.int .i64 n)])), (92, .own 4 75 (([] : List SOp).map sopC)), (1, .box [.d (ints m.sizes), .d (ints m.init), .d (asgs m.goal), .d (opsD m.ops)]), (2, .box [I (0), .d (.v (.slice none 0 0)), .d (.v (.slice none 0 0)), .d (.v (.slice none 0 0))]), (3, .box [I (0), I (0)])]) (fun k => m.init.length - k) 0 (by omega) ?_ ?_
   ·exact .p5 <| .p2 <| .slot rfl (Le.of_eq (by simp)) <| .mem rfl <| .memEq rfl rfl <| .all
   ·rintro k hkl
    refine .g <| .r <| .x (.b blss) ?_; refine .sq <| .g <| .cond rfl (fun c43 => ?_) (fun c43 => ?_)
    ·have hk : k < m.init.length := by simpa using c43
     have hst := hv.init.2 k hk
     have hb := bs_in hv.sizes hz (v := (k : Int)) (by omega) (by omega)
     have hz2 := nth_size hv.sizes (n := (k : Int)) (by omega) (by omega)
     refine .p <| .g <| .g <| .k <| .g <| .r <| .m ?_; refine .x (.i es22) ?_; refine .x (.l1 vs3) ?_; refine .a ?_; refine .a ?_; refine .sq <| PC.start [] ?_; refine .x (.f fo43_1) ?_; refine .x (.l vs22) ?_; refine .mm ?_; refine .x (OpSem.idxL rfl rfl rfl es22 (by omega) (by rw [bsT_len]; omega)) ?_; refine .x (.l1 vs3) ?_; refine .m ?_; refine .x .ad ?_; refine .x (.bs es22 ze22) ?_; refine .d0 mixed ?_; refine .append rfl rfl rfl (by decide) rfl rfl rfl es22 el22 zc3 rfl by3 (by simp [D.one, Value.oneCell']) (by simp [maxLen, iniT_len]; omega) (by simp [iniT_len]; omega) ?_; refine .x (.f fo43_1) ?_; refine .sb vs22 ?_; refine .n <| .n <| .y <| .x .ad ?_; refine .m ?_; refine .n <| .again (k + 1) (by omega) ?_ (by omega); exact .p5 <| .p2 <| .slot rfl (Le.of_eq (by simp)) <| .mem rfl <| .memEq rfl (by rw [← iniT_s]; simp) <| .all
    ·have hk : k = m.init.length := by simp at c43; omega
     subst hk
     refine .u <| .u <| .u <| .b <| .g <| .g <| .g <| .r <| .x (.f fo26_3) ?_; refine .x (.l vs24) ?_; refine .x (.n es24) ?_; refine .m ?_; refine .sq <| .k <| .loop (X := Nat) (fun j => j ≤ m.ops.length) (fun j => [(1, .r 1 0), (2, .r 2 0), (3, .r 3 0), (5, .d (ints (bsL m.sizes))), (7, .r 7 0), (60, .d (opsD m.ops)), (61, I (m.ops.length)), (62, I (j))]) (fun j => [(7, .box [I (szT m.sizes m.sizes.length), .o 91, .d (ints (fcL (bsL m.sizes) m.goal)), .o 92]), (91, .own 1 3 ((iniT m.sizes m.init m.init.length).map fun n => [D.v (.int .i64 n)])), (92, .own 4 75 (((m.ops.take j).map (strO m.sizes)).map sopC)), (1, .box [.d (ints m.sizes), .d (ints m.init), .d (asgs m.goal), .d (opsD m.ops)]), (2, .box [I (0), .d (.v (.slice none 0 0)), .d (.v (.slice none 0 0)), .d (.v (.slice none 0 0))]), (3, .box [I (0), I (0)])]) (fun j => m.ops.length - j) 0 (by omega) ?_ ?_
     ·exact .p5 <| .p2 <| .slot rfl (Le.of_eq (by simp)) <| .mem rfl <| .mem rfl <| .memEq rfl (by simp) <| .all
     ·rintro j hjl
      refine .g <| .r <| .x (.b blss) ?_; refine .sq <| .g <| .cond rfl (fun c63 => ?_) (fun c63 => ?_)
      ·have hj : j < m.ops.length := by simpa using c63
       have ho := hv.op j hj
       have hpl := asgs_len ho.2.1
       refine .p <| .g <| .g <| .k <| .g <| .r <| .x (.i es24) ?_; refine .x (.lN vs89) ?_; refine .al 11 zc89 ?_; refine .sb vs89 ?_; refine .sq <| .g <| PC.start [] ?_; refine .m ?_; refine .x (.f fo89_0) ?_; refine .x (.l vs23) ?_; refine .x (OpSem.call0 (multi_facts_does m.sizes (nth m.ops j).pre hv.sizes hv.len.2 ho.1).fresh rfl rfl rfl rfl (Les.refl _)) ?_; refine .m ?_; refine .x (.f fo89_1) ?_; refine .x (.l vs23) ?_; refine .x (OpSem.call0 (multi_facts_does m.sizes (nth m.ops j).post hv.sizes hv.len.2 ho.2.1).fresh rfl rfl rfl rfl (Les.refl _)) ?_; refine .x (.f fo89_2) ?_; refine .x (.l vs3) ?_; refine .x (.bd pl75 zc75) ?_; refine .semM (OpSem.alloc 12 rfl zc75 rfl) rfl rfl ?_; refine .d1 12 (.box [.d (.v (.slice none 0 0)), .d (.v (.slice none 0 0)), .d (.v (.slice none 0 0)), I (0)]) mixed ?_; refine .sb vs75 ?_; refine .sq <| .g <| .g <| .ownNilBox 93 12 2 1 3 rfl rfl rfl ?_; refine .r <| .x (.f fo89_1) ?_; refine .x (.l vs23) ?_; refine .x (.n es23) ?_; refine .m ?_; refine .sq <| .k <| .loop (X := Nat) (fun i => i ≤ (nth m.ops j).post.length) (fun i => [(1, .r 1 0), (2, .r 2 0), (3, .r 3 0), (5, .d (ints (bsL m.sizes))), (7, .r 7 0), (12, .r 12 0), (60, .d (opsD m.ops)), (61, I (m.ops.length)), (62, I (j)), (78, .d (asgs ((nth m.ops j).post))), (79, I (((nth m.ops j).post).length)), (80, I (i))]) (fun i => [(7, .box [I (szT m.sizes m.sizes.length), .o 91, .d (ints (fcL (bsL m.sizes) m.goal)), .o 92]), (91, .own 1 3 ((iniT m.sizes m.init m.init.length).map fun n => [D.v (.int .i64 n)])), (92, .own 4 75 (((m.ops.take j).map (strO m.sizes)).map sopC)), (12, .box [.d (ints (fcL (bsL m.sizes) (nth m.ops j).pre)), .d (ints (fcL (bsL m.sizes) (nth m.ops j).post)), .o 93, I ((nth m.ops j).cost)]), (93, .own 1 3 ((dlT m.sizes (nth m.ops j).post i).map fun n => [D.v (.int .i64 n)])), (1, .box [.d (ints m.sizes), .d (ints m.init), .d (asgs m.goal), .d (opsD m.ops)]), (2, .box [I (0), .d (.v (.slice none 0 0)), .d (.v (.slice none 0 0)), .d (.v (.slice none 0 0))]), (3, .box [I (0), I (0)])]) (fun i => (nth m.ops j).post.length - i) 0 (by omega) ?_ ?_
       ·exact .p5 <| .p5 <| .sl <| .slot rfl (Le.of_eq (by simp)) <| .mem rfl <| .mem rfl <| .mem rfl <| .mem rfl <| .memEq rfl (by simp [dlT]) <| .all
       ·rintro i hil
        refine .g <| .r <| .x (.b blss) ?_; refine .sq <| .g <| .cond rfl (fun c81 => ?_) (fun c81 => ?_)
        ·have hi : i < (nth m.ops j).post.length := by simpa using c81
         have ha := ho.2.1 i hi
         have hb := bs_in hv.sizes hz ha.1 ha.2.1
         have hz2 := nth_size hv.sizes ha.1 ha.2.1
         have hdl := dlT_len hv.sizes ho.2.1 (k := i) (by omega)
         refine .p <| .g <| .g <| .k <| .g <| .r <| .x (.i es23) ?_; refine .x (.lN vs87) ?_; refine .al 14 zc87 ?_; refine .sb vs87 ?_; refine .z <| .x (.f fo26_0) ?_; refine .x (.l vs22) ?_; refine .x (.f fo87_0) ?_; refine .x (.l vs3) ?_; refine .x (.i es22) ?_; refine .x (.l1 vs3) ?_; refine .m ?_; refine .sq <| .k <| .loop (X := Nat) (fun x => x ≤ (nth m.sizes (nth (nth m.ops j).post i).1).toNat) (fun x => [(1, .r 1 0), (2, .r 2 0), (3, .r 3 0), (5, .d (ints (bsL m.sizes))), (7, .r 7 0), (12, .r 12 0), (14, .r 14 0), (60, .d (opsD m.ops)), (61, I (m.ops.length)), (62, I (j)), (78, .d (asgs ((nth m.ops j).post))), (79, I (((nth m.ops j).post).length)), (80, I (i)), (89, I ((nth m.sizes ((nth ((nth m.ops j).post) i).1)))), (90, I (x))]) (fun x => [(7, .box [I (szT m.sizes m.sizes.length), .o 91, .d (ints (fcL (bsL m.sizes) m.goal)), .o 92]), (91, .own 1 3 ((iniT m.sizes m.init m.init.length).map fun n => [D.v (.int .i64 n)])), (92, .own 4 75 (((m.ops.take j).map (strO m.sizes)).map sopC)), (12, .box [.d (ints (fcL (bsL m.sizes) (nth m.ops j).pre)), .d (ints (fcL (bsL m.sizes) (nth m.ops j).post)), .o 93, I ((nth m.ops j).cost)]), (93, .own 1 3 ((dlT m.sizes (nth m.ops j).post i ++ dl1 (bsL m.sizes) (nth (nth m.ops j).post i) x).map fun n => [D.v (.int .i64 n)])), (1, .box [.d (ints m.sizes), .d (ints m.init), .d (asgs m.goal), .d (opsD m.ops)]), (2, .box [I (0), .d (.v (.slice none 0 0)), .d (.v (.slice none 0 0)), .d (.v (.slice none 0 0))]), (3, .box [I (0), I (0)]), (14, .box [I ((nth ((nth m.ops j).post) i).1), I ((nth ((nth m.ops j).post) i).2)])]) (fun x => (nth m.sizes (nth (nth m.ops j).post i).1).toNat - x) 0 (by omega) ?_ ?_
         ·exact .p5 <| .p5 <| .p3 <| .sl <| .slot rfl (Le.of_eq (by simp)) <| .mem rfl <| .mem rfl <| .mem rfl <| .mem rfl <| .memEq rfl (by simp [dl1]; rfl) <| .all
         ·rintro x hxl
          refine .g <| .r <| .x (.b blss) ?_; refine .sq <| .g <| .cond rfl (fun c91 => ?_) (fun c91 => ?_)
          ·have hx : x < (nth m.sizes (nth (nth m.ops j).post i).1).toNat := by simp at c91; omega
           have hdx := dl1_len (b := (bsL m.sizes)) (a := (nth (nth m.ops j).post i)) (k := x)
           refine .p <| .g <| .g <| .k <| .g <| .r <| .m ?_; refine .a ?_; refine .z <| .m ?_; refine .x (.f fo87_1) ?_; refine .x (.l vs3) ?_; refine .x (.b bneq) ?_; refine .sq <| .cond rfl (fun c96 => ?_) (fun c96 => ?_)
           ·have hxa : (x : Int) ≠ (nth (nth m.ops j).post i).2 := by simpa using c96
            refine PC.start [] ?_; refine .x (.f fo75_2) ?_; refine .x (.l vs22) ?_; refine .m ?_; refine .x (.f fo87_0) ?_; refine .x (.l vs3) ?_; refine .x (OpSem.idxL rfl rfl rfl es22 (by omega) (by rw [bsT_len]; omega)) ?_; refine .x (.l1 vs3) ?_; refine .m ?_; refine .x .ad ?_; refine .x (.bs es22 ze22) ?_; refine .d0 mixed ?_; refine .ap es22 el22 zc3 by3 ?_; refine .x (.f fo75_2) ?_; refine .sb vs22 ?_; refine .n <| .n <| .y <| .x .ad ?_; refine .m ?_; refine .n <| .again (x + 1) (by omega) ?_ (by omega); exact .p5 <| .p5 <| .p3 <| .sl <| .slot rfl (Le.of_eq (by simp)) <| .mem rfl <| .mem rfl <| .mem rfl <| .mem rfl <| .memEq rfl (by rw [dl1_f hxa]; simp) <| .all
           ·have hxa : (x : Int) = (nth (nth m.ops j).post i).2 := by simpa using c96
            refine .p <| .n <| .y <| .x .ad ?_; refine .m ?_; refine .n <| .again (x + 1) (by omega) ?_ (by omega); exact .p5 <| .p5 <| .p3 <| .sl <| .slot rfl (Le.of_eq (by simp)) <| .mem rfl <| .mem rfl <| .mem rfl <| .mem rfl <| .memEq rfl (by rw [dl1_t hxa]) <| .all
          ·have hx : x = (nth m.sizes (nth (nth m.ops j).post i).1).toNat := by simp at c91; omega
           subst hx
           refine .u <| .u <| .u <| .b <| .n <| .y <| .x .ad ?_; refine .m ?_; refine .n <| .again (i + 1) (by omega) ?_ (by omega); exact .p5 <| .p5 <| .sl <| .slot rfl (Le.of_eq (by simp)) <| .mem rfl <| .mem rfl <| .mem rfl <| .mem rfl <| .memEq rfl rfl <| .all
        ·have hi : i = (nth m.ops j).post.length := by simp at c81; omega
         subst hi
         refine .u <| .u <| .u <| .b <| .g <| .freeze 93 rfl ?_; refine .r <| .x (.f fo43_3) ?_; refine .x (.l vs41) ?_; refine .x (.L vs75) ?_; refine .x (.bs es41 ze41) ?_; refine .ap es41 el41 zc75 by75 ?_; refine .x (.f fo43_3) ?_; refine .sb vs41 ?_; refine .n <| .n <| .y <| .x .ad ?_; refine .m ?_; refine .n <| .again (j + 1) (by omega) ?_ (by omega); exact .p5 <| .p2 <| .slot rfl (Le.of_eq (by simp)) <| .mem rfl <| .mem rfl <| .memEq rfl (congrArg (Mo.own 4 75) (str_take hj)) <| .all
      ·have hj : j = m.ops.length := by simp at c63; omega
       subst hj
       refine .u <| .u <| .u <| .b <| .g <| .g <| .memEq (h := 92) (m' := .own 4 75 ((m.ops.map (strO m.sizes)).map sopC)) rfl (by rw [List.take_length]) ?_; refine .freeze 91 rfl ?_; refine .freeze 92 rfl ?_; refine .r <| .x (.L vs43) ?_; refine .x (.bd pl32 zc32) ?_; refine .sb vs43 ?_; refine .sb vs32 ?_; exact .sq <| .t <| .ret rfl (.cellN rfl rfl vs43 <| .cellN rfl rfl vs32 <| .nil) rfl (Le.t (.cons (by rw [(strF_3 h0 h2).2]; exact .refl _) <| .cons (Le.flt (strF_3 h0 h2).1.symm) <| .nil))
end Go.Proofs.YtgophedpkiidkaaGreat
end

section
namespace Go.Proofs.YtgophedpkiidkaaGreat
open Go.Eng
set_option maxRecDepth 10000
set_option maxHeartbeats 1000000
theorem bestRes_F (m : Multi) (l : List (List (List Int))) (s : List Int) : (bestRes m l s).2.2 = bestF m l s := by
  unfold bestRes
  split
  · rename_i h; exact h.symm
  · rfl
theorem bestF_pot {m : Multi} {l : List (List (List Int))} {s : List Int} (h : bestF m l s = (0, 0)) : ∀ k : Nat, k < l.length → potFault m (nth l k) (-8) = (0, 0) := by
  obtain ⟨i1, i2, i3⟩ := addTo_wok (n := l.length) (g := baseF m l s) (sizes := m.sizes) (l := l) (by have := congrArg Prod.fst h; exact this)
  intro k hk
  have hv : validate m = (0, 0) := by
    unfold baseF at i1
    split at i1
    · cases i1
    · have := stateFault_code i1
      unfold stateFault at this
      split at this <;> assumption
  unfold potFault wfault
  rw [if_pos hv, if_pos (i3 k hk)]
end Go.Proofs.YtgophedpkiidkaaGreat
end

section
namespace Go.Proofs.YtgophedpkiidkaaGreat
open Go.Eng
set_option maxRecDepth 10000
set_option maxHeartbeats 1000000
end Go.Proofs.YtgophedpkiidkaaGreat
end

section
namespace Go.Proofs.YtgophedpkiidkaaGreat
open Go.Eng
set_option maxRecDepth 10000
set_option maxHeartbeats 1000000
end Go.Proofs.YtgophedpkiidkaaGreat
end
