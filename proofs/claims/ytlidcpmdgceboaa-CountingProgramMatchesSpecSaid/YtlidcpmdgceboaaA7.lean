/- The engine and the walks that this claim uses, part 7. Written by prune.py out of our own texts. -/
import Derived.Test.YtlidcpmdgceboaaA6
section
/- The engine, part 38: memory whose cells are known exactly. -/


set_option linter.unusedSimpArgs false
set_option linter.unnecessarySimpa false
set_option linter.unusedVariables false
namespace Go.Eng
open Go.RowKit (Below)

abbrev ptr (b off : Nat) : Value := .pointer (some ⟨b, off, none⟩)
abbrev slc (b len cap : Nat) : Value := .slice (some ⟨b, 0, none⟩) len cap
/-- Blocks with their element types and cells. -/
abbrev PF := Nat → Option (Nat × List Value)
def pinK (F : PF) : Km := {
  q O _ B w h := ∀ b T l, F b = some (T, l) → B ≤ b ∧ O b = h + 1 ∧ w.heap[b]? = some (.cells l.toArray T (0, 0))
  mono := by
    intro O O' v B w w' h hk hq b T l hF
    obtain ⟨h1, h2, h3⟩ := hq b T l hF
    obtain ⟨k1, k2⟩ := hk b (Array.getElem?_eq_some_iff.1 h3).1 (.inr h2)
    exact ⟨h1, k1.trans h2, k2.trans h3⟩ }
def updF (F : PF) (b T : Nat) (l : List Value) : PF := fun c => if c = b then some (T, l) else F c
abbrev noF : PF := fun _ => none

section
variable {P : Program} {B : Nat} {o : Oper} {e : Env} {M : Mem} {s : S}
theorem rep_v {O : Nat → Nat} {H : Nat → Value} {w : World} {x v : Value} (h : RepS O H w x (.d (.v v))) : x = v := by
  cases h with
  | d _ _ q => cases q with
    | v _ => rfl
theorem OpSem.nilv {x : Operand} {b off : Nat} (ho : o.op = .nilCheck x) (hx : opS e x = some (.d (.v (ptr b off)))) : OpSem P B o e M (.d (.v (ptr b off))) none :=
  .value fun O H a w hs _ => by
    have hr := rep_v (hs x (by simp [ho, Op.operands]) _ hx)
    exact ⟨ptr b off, by simp [execOp, ho, hr], .d _ _ (.v _)⟩
theorem OpSem.nilr {x : Operand} {h k : Nat} (ho : o.op = .nilCheck x) (hx : opS e x = some (.r h k)) : OpSem P B o e M (.r h k) none :=
  .value fun O H a w hs _ => by
    have hr := hs x (by simp [ho, Op.operands]) _ hx
    generalize hv : a.eval x = v at hr
    cases hr with
    | r h b k hH => exact ⟨ptr b k, by simp [execOp, ho, hv], .r h b k hH⟩
theorem OpSem.nilp {x : Operand} {cs : List D} (ho : o.op = .nilCheck x) (hx : opS e x = some (.p cs)) : OpSem P B o e M (.p cs) none :=
  .value fun O H a w hs _ => by
    have hr := hs x (by simp [ho, Op.operands]) _ hx
    generalize hv : a.eval x = v at hr
    cases hr with
    | p b off cs y hO hy hr => exact ⟨ptr b off, by simp [execOp, ho, hv], .p b off cs y hO hy hr⟩
theorem OpSem.fieldv {t k n b off : Nat} {x : Operand} (ho : o.op = .fieldAddr t x k) (hx : opS e x = some (.d (.v (ptr b off)))) (ht : fof P t k = some n) : OpSem P B o e M (.d (.v (ptr b (off + n)))) none :=
  .value fun O H a w hs _ => by
    have hr := rep_v (hs x (by simp [ho, Op.operands]) _ hx)
    exact ⟨ptr b (off + n), by simp [execOp, ho, hr, run_fieldAt ht], .d _ _ (.v _)⟩
theorem OpSem.lenv {x : Operand} {t k len cap : Nat} {a0 : Option Addr} (ho : o.op = .call { callee := .builtin .len, args := #[x], argTypes := #[t] }) (hx : opS e x = some (.d (.v (.slice a0 len cap)))) (ht : esz P t = some k) : OpSem P B o e M (.d (.v (.int .i64 len))) none :=
  .value fun O H a w hs _ => by
    have hr := rep_v (hs x (by simp [ho, Op.operands, Call.operands]) _ hx)
    exact ⟨_, by simp [execOp, ho, resolve, invoke, builtin, hr, run_len_slice w t _ _ _ _ (esz_spec ht).1, goInt], .d _ _ (.v _)⟩
theorem OpSem.idxv {t b len cap off : Nat} {x i : Operand} {kk : IntKind} {n : Int} {a0 : Option Addr} (ho : o.op = .indexAddr t x i) (hx : opS e x = some (.d (.v (.slice a0 len cap)))) (hi : opS e i = some (.d (.v (.int kk n))))
    (ht : esz P t = some 1) (ha : a0 = some ⟨b, off, none⟩) (h0 : 0 ≤ n) (h1 : n < len) : OpSem P B o e M (.d (.v (ptr b (off + n.toNat)))) none :=
  .value fun O H a w hs _ => by
    subst ha
    have hr := rep_v (hs x (by simp [ho, Op.operands]) _ hx)
    have hu := rep_v (hs i (by simp [ho, Op.operands]) _ hi)
    exact ⟨ptr b (off + n.toNat), by simp [execOp, ho, hr, hu, run_idx ht h0 h1], .d _ _ (.v _)⟩
theorem OpSem.loadv {t : TypeId} {x : Operand} {b off T h : Nat} {F : PF} {l : List Value} {v : Value} (ho : o.op = .load t x) (hx : opS e x = some (.d (.v (ptr b off)))) (hM : look M h = some (.any (pinK F))) (ht : vsz P t = some (false, 1))
    (hF : F b = some (T, l)) (hv : l[off]? = some v) : OpSem P B o e M (.d (.v v)) none :=
  .value fun O H a w hs hm => by
    have hr := rep_v (hs x (by simp [ho, Op.operands]) _ hx)
    obtain ⟨_, _, hb⟩ := hm h _ hM b T l hF
    exact ⟨v, by simp [execOp, ho, Instr.loadAt, Instr.sureAddr, hr, run_loadVar1 ht (cellOf hb (by simpa using hv))], .d _ _ (.v _)⟩
theorem OpSt.storev {t : TypeId} {x y : Operand} {b off T h : Nat} {F F' : PF} {l : List Value} {v : Value} (ho : o.op = .store t x y) (hx : opS e x = some (.d (.v (ptr b off)))) (hy : opS e y = some (.d (.v v))) (ht : vsz P t = some (false, 1))
    (hF : F b = some (T, l)) (hl : off < l.length) (h1 : v.oneCell' = true) (hF' : updF F b T (l.set off v) = F') : OpSt P B o e h (.any (pinK F)) (.any (pinK F')) .u := by
  intro O H a w hBw hsl hm K hK
  subst hF'
  have hr := rep_v (hsl x (by simp [ho, Op.operands]) _ hx)
  have hv := rep_v (hsl y (by simp [ho, Op.operands]) _ hy)
  obtain ⟨hB, hO, hb⟩ := hm b T l hF
  have hcells : v.cells = #[v] := by cases v <;> simp_all [Value.cells, Value.oneCell']
  have hrun := run_storeVar (P := P) (v := v) ht (off := off) hb (by rw [hcells]; rfl) (by simp; omega) (by rw [hcells]; intro z hz; simp at hz; rw [hz]; exact h1)
  have hset : (l.toArray.toList.take off ++ v.cells.toList ++ l.toArray.toList.drop (off + 1)).toArray = (l.set off v).toArray := by
    apply Array.ext'
    simp only [hcells, List.toList_toArray]
    rw [List.set_eq_take_append_cons_drop, if_pos hl]
    simp
  rw [hset] at hrun
  unfold Oper.wp
  simp only [execOp, ho, hr, hv, Instr.storeAt, Instr.sureAddr, Sem.run_bind, Sem.run_pure, Result.andThen_ok, hrun, Oper.upon_skip]
  refine hK _ _ (Keep.setRow hO) ((Below.setRow hB).mono (Nat.le_refl _)) (fun c T' l' hc => ?_) (.u _)
  unfold updF at hc
  by_cases hcb : c = b
  · subst hcb
    rw [if_pos rfl] at hc
    cases hc
    exact ⟨hB, hO, setRow_heap w c l.toArray _ T _ hb⟩
  · rw [if_neg hcb] at hc
    obtain ⟨g1, g2, g3⟩ := hm c T' l' hc
    refine ⟨g1, g2, ?_⟩
    rw [← g3]
    exact setRow_other w b c _ hcb
end

/-! ### Calls that write pinned memory -/
def Pins (F : PF) (w : World) : Prop := ∀ b T l, F b = some (T, l) → w.heap[b]? = some (.cells l.toArray T (0, 0))
structure TouchP (F : PF) (w w' : World) : Prop where
  os : w'.os = w.os
  tape : w'.tape = w.tape
  output : w'.output = w.output
  size : w.heap.size ≤ w'.heap.size
  same : ∀ b, b < w.heap.size → F b = none → w'.heap[b]? = w.heap[b]?
structure DoesP (P : Program) (f : Nat) (args : List Value) (res : Value) (F F' : PF) : Prop where
  can : ∀ xs w, (callFunc f xs).run P w = .ok (.enter f xs) w
  dom : ∀ b, F b = none ↔ F' b = none
  run : ∀ (w : World), Pins F w → Calls P f args.toArray w fun en w' => en = .returned res ∧ TouchP F w w' ∧ Pins F' w'

section
variable {P : Program} {N : Nat} {w0 : World} {O0 : Nat → Nat} {ops : Array Oper} {Q : Post} {e : Env} {M : Mem} {rest : List Oper} {o : Oper} {s : S} {B : Nat}
theorem OpSt.callP {h fn : Nat} {g : Operand} {as_ : Array Operand} {ts : Array TypeId} {args : List Value} {res : Value} {F F' : PF} {l : List S} (hspec : DoesP P fn args res F F')
    (ho : o.op = .call { callee := .value g, args := as_, argTypes := ts }) (hg : opS e g = some (.f fn [] [])) (ha : opsS e as_.toList = some l) (hv : ∀ H, l.mapM (valS H 9) = some args) :
    OpSt P B o e h (.any (pinK F)) (.any (pinK F')) (.d (.v res)) := by
  intro O H a w hB hs hm K hK
  have hg' : a.eval g = .func (.func fn) #[] #[] := valS_rep 9 (hs g (by simp [ho, Op.operands, Call.operands]) _ hg) rfl
  have hargs := argsEq (a := a) (O := O) (H := H) (w := w) (as_ := as_) (fun x hx s hs' => hs x (by simp only [ho, Op.operands, Call.operands]; simpa using .inr hx) s hs') ha (hv H)
  unfold Oper.wp
  rw [run_callW hspec.can ho hg' hargs]
  refine (hspec.run w (fun b T l hF => (hm b T l hF).2.2)).mono ?_
  rintro en w' ⟨rfl, ht, hv'⟩
  have hdom : ∀ b, (F b = none → False) → B ≤ b ∧ O b = h + 1 := fun b hb => by
    cases hF : F b with
    | none => exact (hb hF).elim
    | some p => obtain ⟨h1, h2, _⟩ := hm b p.1 p.2 hF; exact ⟨h1, h2⟩
  refine hK w' _ ⟨fun _ _ => rfl, fun b hb hne => ht.same b hb (Classical.byContradiction fun hn => hne h rfl (hdom b hn).2), fun _ _ => rfl⟩ ⟨ht.os, ht.tape, ht.output, ht.size, fun b hb => ht.same b (by omega) (Classical.byContradiction fun hn => by have := (hdom b hn).1; omega)⟩ (fun b T l hF => ?_) (.d _ _ (.v _))
  obtain ⟨h1, h2⟩ := hdom b (fun hn => by rw [(hspec.dom b).1 hn] at hF; cases hF)
  exact ⟨h1, h2, hv' b T l hF⟩
/-- What a pinned memory is called by another name. -/
theorem TrOps.pinEq {h : Nat} {F F' : PF} (hM : look M h = some (.any (pinK F))) (he : F = F') (hn : TrOps P N w0 O0 ops Q e ((h, .any (pinK F')) :: M) rest) : TrOps P N w0 O0 ops Q e M rest := by
  subst he
  intro O H a w hst
  exact hn O H a w ⟨hst.df, hst.sz, hst.bl, hst.lab, hst.slots, fun n m hm => by
    rcases look_cons hm with ⟨rfl, rfl⟩ | ⟨_, hm⟩
    · exact hst.mem _ _ hM
    · exact hst.mem _ _ hm⟩

def RetP (Oc : Nat → Nat) (W : World) (res : Value) (F : PF) : Ending → World → Prop :=
  fun en w' => en = .returned res ∧ w'.os = W.os ∧ w'.tape = W.tape ∧ w'.output = W.output ∧ Pins F w' ∧ ∃ O', Keeps Oc W O' w'

theorem DoesP.of_body {f : Nat} {args : List Value} {res : Value} {F F' : PF} {fn : Func} {c : Code} (hf : P.funcs[f]? = some fn) (hb : fn.body = some c) (hN : fn.ntmps = N) (hlen : args.length ≤ N)
    (can : ∀ xs w, (callFunc f xs).run P w = .ok (.enter f xs) w) (dom : ∀ b, F b = none ↔ F' b = none)
    (h : ∀ (O0 : Nat → Nat) (Oc : Nat → Nat) (W : World), Tr P N { W with heap := #[] } O0 (entry 0 (args.map fun v => S.d (.v v))) [(0, .any (pinK F)), (1000, .fr (frK Oc W))] c (bodyPost P fn (RetP Oc W res F'))) : DoesP P f args res F F' := by
  refine ⟨can, dom, fun w hv => ?_⟩
  obtain ⟨Oc, hOc⟩ : ∃ Oc : Nat → Nat, Oc = fun b => if (F b).isSome then 1 else 0 := ⟨_, rfl⟩
  refine (calls_of_wp hf hb (h Oc Oc w Oc (fun _ => undef) _ w ⟨rfl, ?_, ⟨rfl, rfl, rfl, Nat.zero_le _, fun k hk => absurd hk (Nat.not_lt_zero k)⟩, fun b hb => absurd hb (Nat.not_lt_zero b), fun n s hs => ?_, fun n m hm => ?_⟩)).mono ?_
  · simp; omega
  · obtain ⟨_, hn⟩ := look_entry _ 0 n s hs
    simp only [Nat.sub_zero, List.getElem?_map, Option.map_eq_some_iff] at hn
    obtain ⟨v, hn, rfl⟩ := hn
    refine ⟨v, ?_, .d _ _ (.v _)⟩
    have hlt := (List.getElem?_eq_some_iff.1 hn).1
    rw [Array.getElem?_append_left (by simpa using hlt)]
    simpa using hn
  · rcases look_cons hm with ⟨rfl, rfl⟩ | ⟨_, hm⟩
    · intro b T l hF
      exact ⟨Nat.zero_le _, by rw [hOc]; simp [hF], hv b T l hF⟩
    · rcases look_cons hm with ⟨rfl, rfl⟩ | ⟨_, hm⟩
      · exact fun b _ h => ⟨h, rfl⟩
      · cases hm
  · rintro en w' ⟨rfl, hos, htp, hout, hp, O', hk⟩
    have hex : ∀ b, b < w.heap.size → b < w'.heap.size := fun b hb => by
      cases hF : F b with
      | none =>
        have := (hk b hb (by rw [hOc]; simp [hF])).2
        rw [Array.getElem?_eq_getElem hb] at this
        exact (Array.getElem?_eq_some_iff.1 this).1
      | some p =>
        cases hF' : F' b with
        | none => rw [(dom b).2 hF'] at hF; cases hF
        | some q => exact (Array.getElem?_eq_some_iff.1 (hp b q.1 q.2 hF')).1
    refine ⟨rfl, ⟨hos, htp, hout, ?_, fun b hb hn => (hk b hb (by rw [hOc]; simp [hn])).2⟩, hp⟩
    rcases Nat.eq_zero_or_pos w.heap.size with h0 | h0
    · omega
    · have := hex (w.heap.size - 1) (by omega); omega
theorem At.retP {Oc : Nat → Nat} {W : World} {res : Value} {F F' : PF} {fn : Func} {rs : List ResultVar} {l : List S} {x : Exit} (hx : x = .ret ∨ x = .normal) (hres : fn.results.toList = rs) (hl : RetL P e M rs l) (hM : look M 0 = some (.any (pinK F))) (hK : look M 1000 = some (.fr (frK Oc W))) (hr : F = F')
    (hv : ∀ H, valS H 9 (one l) = some res) : At N { W with heap := #[] } O0 e M x (bodyPost P fn (RetP Oc W res F')) := by
  subst hr
  intro O H a w hst
  obtain ⟨vs, h1, h2, h3⟩ := hl.run hst
  have hrun : (results fn a.tmps).run P w = .ok (if h : vs.toArray.size = 1 then vs.toArray[0] else .tuple vs.toArray) w := by
    rw [results_rv, Array.mapM_eq_mapM_toList, hres]
    simp only [Sem.run_bind, Sem.run_map, h1, Result.andThen_ok, Sem.run_pure]
  have hrep : RepS O H w (if h : vs.toArray.size = 1 then vs.toArray[0] else .tuple vs.toArray) (one l) := by
    clear hrun hv hl h1
    cases l with
    | nil =>
      cases vs with
      | nil => simpa [one] using RepS.t (O := O) (H := H) (w := w) [] [] rfl h3
      | cons v vs => simp at h2
    | cons s l =>
      cases vs with
      | nil => simp at h2
      | cons v vs =>
        cases l with
        | nil =>
          cases vs with
          | nil => simpa [one] using h3 0 v s rfl rfl
          | cons v2 vs => simp at h2
        | cons s2 l =>
          cases vs with
          | nil => simp at h2
          | cons v2 vs => simpa [one] using RepS.t (O := O) (H := H) (w := w) (v :: v2 :: vs) (s :: s2 :: l) h2 h3
  have hx' := valS_rep 9 hrep (hv H)
  have hm := hst.mem 0 _ hM
  have key : a.defers = [] ∧ ∃ v, (results fn a.tmps).run P w = .ok v w ∧ RetP Oc W res F (.returned v) w :=
    ⟨hst.df, _, hrun, by rw [hx'], hst.bl.os, hst.bl.tape, hst.bl.output, fun b T l hF => (hm b T l hF).2.2, O, hst.mem 1000 _ hK⟩
  rcases hx with rfl | rfl <;> exact key
end
end Go.Eng
end

section
/- The tableau of the simplex method in memory. -/


set_option linter.unusedSimpArgs false
set_option linter.unnecessarySimpa false
set_option linter.unusedVariables false
namespace Go.Eng
open Go.RowKit (Below)

structure Tb where
  rs : List (List Int)
  bs : List Int
  dn : Int
/-- Where the parts of a tableau lie. -/
structure Ids where
  s : Nat
  r : Nat
  rc : Nat
  rt : List Value
  ba : Option Addr
  bb : Nat
  bc : Nat
  bt : List Value
  rb : List Nat
  cs : List Nat
  ts : List (List Value)
  w : Nat
  Tt : Nat
  TR : Nat
  TI : Nat
def iv (l : List Int) : List Value := l.map (Value.int .i64)
def rbk (g : Ids) (i : Int) : Nat := g.rb.getD i.toNat 0
def rck (g : Ids) (i : Int) : Nat := g.cs.getD i.toNat 0
def rtl (g : Ids) (i : Nat) : List Value := g.ts.getD i []
def cel (t : Tb) (i j : Int) : Int := nth (nth t.rs i) j
noncomputable def tabF (g : Ids) (t : Tb) : PF := fun b => if b = g.s then some (g.Tt, [slc g.r t.rs.length g.rc, .slice g.ba t.bs.length g.bc, .int .i64 t.dn])
  else if b = g.r then some (g.TR, (List.range g.rb.length).map (fun (i : Nat) => slc (rbk g i) g.w (rck g i)) ++ g.rt) else if b = g.bb then some (g.TI, iv t.bs ++ g.bt)
  else if b ∈ g.rb then some (g.TI, iv (nth t.rs (g.rb.idxOf b)) ++ rtl g (g.rb.idxOf b)) else none
noncomputable abbrev tabM (g : Ids) (t : Tb) : Mo := .any (pinK (tabF g t))
structure TabOk (g : Ids) (t : Tb) : Prop where
  sr : g.r ≠ g.s
  nd : g.rb.Nodup
  s : g.s ∉ g.rb
  r : g.r ∉ g.rb
  b : g.bb ∉ g.rb
  br : g.bb ≠ g.r
  ba : t.bs ≠ [] → g.ba = some ⟨g.bb, 0, none⟩ ∧ g.bb ≠ g.s
  len : g.rb.length = t.rs.length
  w : ∀ i : Nat, i < t.rs.length → (nth t.rs i).length = g.w
  rc : t.rs.length ≤ g.rc ∧ g.rc ≤ maxLen
  bc : t.bs.length ≤ g.bc ∧ g.bc ≤ maxLen
  cc : ∀ i : Nat, i < t.rs.length → g.w ≤ rck g i ∧ rck g i ≤ maxLen
  wm : g.w ≤ 1000000
  rm : t.rs.length ≤ 1000000
  bm : t.bs.length ≤ 1000000
theorem idxOf_nd {l : List Nat} (h : l.Nodup) {i : Nat} (hi : i < l.length) : l.idxOf l[i] = i := by
  induction l generalizing i with
  | nil => simp at hi
  | cons x l ih =>
    rw [List.nodup_cons] at h
    cases i with
    | zero => simp
    | succ i =>
      simp only [List.length_cons] at hi
      simp only [List.getElem_cons_succ]
      have hm : l[i] ∈ l := List.getElem_mem (by omega)
      have hx : (x == l[i]) = false := by
        simp only [beq_eq_false_iff_ne]; intro e; exact h.1 (by rw [e]; exact hm)
      rw [List.idxOf_cons, hx, ih h.2 (by omega)]; rfl
section
variable {g : Ids} {t t' : Tb}
theorem tab_s : tabF g t g.s = some (g.Tt, [slc g.r t.rs.length g.rc, .slice g.ba t.bs.length g.bc, .int .i64 t.dn]) := by simp [tabF]
theorem tab_r (h : TabOk g t) : tabF g t g.r = some (g.TR, (List.range g.rb.length).map (fun (i : Nat) => slc (rbk g i) g.w (rck g i)) ++ g.rt) := by
  unfold tabF; rw [if_neg h.sr, if_pos rfl]
theorem tab_b (h : TabOk g t) (hb : t.bs ≠ []) : tabF g t g.bb = some (g.TI, iv t.bs ++ g.bt) := by
  unfold tabF; rw [if_neg (h.ba hb).2, if_neg h.br, if_pos rfl]
theorem rbk_in (h : TabOk g t) {i : Int} (h0 : 0 ≤ i) (h1 : i < t.rs.length) : rbk g i ∈ g.rb ∧ g.rb.idxOf (rbk g i) = i.toNat := by
  have hl : i.toNat < g.rb.length := by rw [h.len]; omega
  have e : rbk g i = g.rb[i.toNat] := by unfold rbk; simp [hl]
  rw [e]; exact ⟨List.getElem_mem _, idxOf_nd h.nd hl⟩
theorem rbk_ne (h : TabOk g t) {c : Nat} (m1 : c ∈ g.rb) : c ≠ g.s ∧ c ≠ g.r ∧ c ≠ g.bb := ⟨fun e => h.s (by rw [← e]; exact m1), fun e => h.r (by rw [← e]; exact m1), fun e => h.b (by rw [← e]; exact m1)⟩
theorem tab_row (h : TabOk g t) {i : Int} (h0 : 0 ≤ i) (h1 : i < t.rs.length) : tabF g t (rbk g i) = some (g.TI, iv (nth t.rs i) ++ rtl g i.toNat) := by
  obtain ⟨m1, m2⟩ := rbk_in h h0 h1
  obtain ⟨n1, n2, n3⟩ := rbk_ne h m1
  unfold tabF
  rw [if_neg n1, if_neg n2, if_neg n3, if_pos m1, m2, Int.toNat_of_nonneg h0]
theorem tab_dom (b : Nat) : tabF g t b = none ↔ tabF g t' b = none := by
  unfold tabF
  split
  · simp
  · split
    · simp
    · split
      · simp
      · split <;> simp
def setC (t : Tb) (i j : Int) (x : Int) : Tb := { t with rs := t.rs.set i.toNat ((nth t.rs i).set j.toNat x) }
theorem nth_set {α : Type} [Inhabited α] {l : List α} {i : Nat} {v : α} {n : Int} (h0 : 0 ≤ n) (h1 : n < l.length) : nth (l.set i v) n = if n.toNat = i then v else nth l n := by
  have h2 : n.toNat < l.length := by omega
  unfold nth
  simp only [List.getD_eq_getElem?_getD, List.getElem?_set]
  by_cases h : i = n.toNat
  · subst h; simp [h2]
  · rw [if_neg h, if_neg (fun e => h e.symm)]
theorem tab_setC (h : TabOk g t) {i j : Int} {x : Int} (h0 : 0 ≤ i) (h1 : i < t.rs.length) (hj : j.toNat < (nth t.rs i).length) : updF (tabF g t) (rbk g i) g.TI ((iv (nth t.rs i) ++ rtl g i.toNat).set j.toNat (.int .i64 x)) = tabF g (setC t i j x) := by
  obtain ⟨m1, m2⟩ := rbk_in h h0 h1
  funext c
  unfold updF
  by_cases hc : c = rbk g i
  · subst hc
    rw [if_pos rfl]
    obtain ⟨n1, n2, n3⟩ := rbk_ne h m1
    unfold tabF
    rw [if_neg n1, if_neg n2, if_neg n3, if_pos m1, m2]
    unfold setC
    rw [nth_set (by omega) (by omega), if_pos (by omega), List.set_append_left _ _ (by simpa [iv] using hj)]
    simp [iv, List.map_set]
  · rw [if_neg hc]
    unfold tabF setC
    simp only [List.length_set]
    by_cases hm : c ∈ g.rb
    · obtain ⟨n1, n2, n3⟩ := rbk_ne h hm
      rw [if_neg n1, if_neg n2, if_neg n3, if_pos hm, if_neg n1, if_neg n2, if_neg n3, if_pos hm]
      have hlt : g.rb.idxOf c < g.rb.length := List.idxOf_lt_length_iff.2 hm
      have hne : g.rb.idxOf c ≠ i.toNat := fun e => hc (by
        have : g.rb[g.rb.idxOf c] = c := List.getElem_idxOf hlt
        unfold rbk
        rw [← e]
        simp [hlt])
      rw [nth_set (by omega) (by have := h.len; omega), if_neg (by simpa using hne)]
    · simp [hm]
theorem tab_setD {x : Int} : updF (tabF g t) g.s g.Tt ([slc g.r t.rs.length g.rc, .slice g.ba t.bs.length g.bc, .int .i64 t.dn].set 2 (.int .i64 x)) = tabF g { t with dn := x } := by
  funext c
  unfold updF
  by_cases hc : c = g.s
  · subst hc; rw [if_pos rfl, tab_s]; rfl
  · rw [if_neg hc]; unfold tabF; simp [hc]
theorem tab_setB (h : TabOk g t) (hb : t.bs ≠ []) {j : Int} {x : Int} (h1 : j.toNat < t.bs.length) : updF (tabF g t) g.bb g.TI ((iv t.bs ++ g.bt).set j.toNat (.int .i64 x)) = tabF g { t with bs := t.bs.set j.toNat x } := by
  funext c
  unfold updF
  by_cases hc : c = g.bb
  · subst hc
    rw [if_pos rfl]
    unfold tabF
    rw [if_neg (h.ba hb).2, if_neg h.br, if_pos rfl, List.set_append_left _ _ (by simpa [iv] using h1)]
    simp [iv, List.map_set]
  · rw [if_neg hc]; unfold tabF; simp [hc]
theorem TabOk.mono (h : TabOk g t) (h1 : t'.rs.length = t.rs.length) (h2 : ∀ i : Nat, i < t.rs.length → (nth t'.rs i).length = (nth t.rs i).length) (h3 : t'.bs.length = t.bs.length) : TabOk g t' := {
  sr := h.sr
  nd := h.nd
  s := h.s
  r := h.r
  b := h.b
  br := h.br
  ba := fun hb => h.ba (fun e => hb (List.eq_nil_of_length_eq_zero (by rw [h3, e]; rfl)))
  len := h.len.trans h1.symm
  w := fun i hi => by rw [h2 i (by omega)]; exact h.w i (by omega)
  rc := by rw [h1]; exact h.rc
  bc := by rw [h3]; exact h.bc
  cc := fun i hi => h.cc i (by omega)
  wm := h.wm
  rm := by rw [h1]; exact h.rm
  bm := by rw [h3]; exact h.bm }
end

section
variable {P : Program} {N : Nat} {w0 : World} {O0 : Nat → Nat} {B : Nat} {o : Oper} {e : Env} {M : Mem} {s : S} {g : Ids} {t : Tb} {h : Nat}
theorem OpSem.tb0 {T : TypeId} {x : Operand} (ho : o.op = .load T x) (hx : opS e x = some (.d (.v (ptr g.s 0)))) (hM : look M h = some (tabM g t)) (ht : vsz P T = some (false, 1)) : OpSem P B o e M (.d (.v (slc g.r t.rs.length g.rc))) none :=
  .loadv ho hx hM ht tab_s rfl
theorem OpSem.tb1 {T : TypeId} {x : Operand} (ho : o.op = .load T x) (hx : opS e x = some (.d (.v (ptr g.s 1)))) (hM : look M h = some (tabM g t)) (ht : vsz P T = some (false, 1)) : OpSem P B o e M (.d (.v (.slice g.ba t.bs.length g.bc))) none :=
  .loadv ho hx hM ht tab_s rfl
theorem OpSem.tb2 {T : TypeId} {x : Operand} (ho : o.op = .load T x) (hx : opS e x = some (.d (.v (ptr g.s 2)))) (hM : look M h = some (tabM g t)) (ht : vsz P T = some (false, 1)) : OpSem P B o e M (.d (.v (.int .i64 t.dn))) none :=
  .loadv ho hx hM ht tab_s rfl
theorem OpSem.tbR {T : TypeId} {x : Operand} {i : Int} (hk : TabOk g t) (ho : o.op = .load T x) (hx : opS e x = some (.d (.v (ptr g.r (0 + i.toNat))))) (hM : look M h = some (tabM g t)) (ht : vsz P T = some (false, 1)) (h0 : 0 ≤ i) (h1 : i < t.rs.length) : OpSem P B o e M (.d (.v (slc (rbk g i) g.w (rck g i)))) none := by
  refine .loadv ho hx hM ht (tab_r hk) ?_
  have hl : i.toNat < g.rb.length := by have := hk.len; omega
  rw [Nat.zero_add, List.getElem?_append_left (by simpa using hl), List.getElem?_map, List.getElem?_range hl, Option.map_some, Int.toNat_of_nonneg h0]
theorem OpSem.tbC {T : TypeId} {x : Operand} {i j : Int} (hk : TabOk g t) (ho : o.op = .load T x) (hx : opS e x = some (.d (.v (ptr (rbk g i) (0 + j.toNat))))) (hM : look M h = some (tabM g t)) (ht : vsz P T = some (false, 1)) (h0 : 0 ≤ i) (h1 : i < t.rs.length) (k0 : 0 ≤ j) (k1 : j < g.w) : OpSem P B o e M (.d (.v (.int .i64 (cel t i j)))) none := by
  refine .loadv ho hx hM ht (tab_row hk h0 h1) ?_
  have hw := hk.w i.toNat (by omega)
  rw [Int.toNat_of_nonneg h0] at hw
  have hl : j.toNat < (nth t.rs i).length := by omega
  have : cel t i j = (nth t.rs i)[j.toNat] := by unfold cel; rw [← nth_eq hl, Int.toNat_of_nonneg k0]
  rw [Nat.zero_add, this, List.getElem?_append_left (by simpa [iv] using hl)]; simp [iv, hl]
theorem OpSem.tbB {T : TypeId} {x : Operand} {j : Int} (hk : TabOk g t) (ho : o.op = .load T x) (hx : opS e x = some (.d (.v (ptr g.bb (0 + j.toNat))))) (hM : look M h = some (tabM g t)) (ht : vsz P T = some (false, 1)) (k0 : 0 ≤ j) (k1 : j < t.bs.length) : OpSem P B o e M (.d (.v (.int .i64 (nth t.bs j)))) none := by
  have hl : j.toNat < t.bs.length := by omega
  have hb : t.bs ≠ [] := fun e => by rw [e] at hl; simp at hl
  refine .loadv ho hx hM ht (tab_b hk hb) ?_
  have : nth t.bs j = t.bs[j.toNat] := by rw [← nth_eq hl, Int.toNat_of_nonneg k0]
  rw [Nat.zero_add, this, List.getElem?_append_left (by simpa [iv] using hl)]; simp [iv, hl]
/-- The address of the basis. -/
theorem TabOk.at (hk : TabOk g t) {j : Int} (k0 : 0 ≤ j) (k1 : j < t.bs.length) : g.ba = some ⟨g.bb, 0, none⟩ := (hk.ba (fun e => by rw [e] at k1; simp at k1; omega)).1
theorem OpSt.tbC {T : TypeId} {x y : Operand} {i j v : Int} (hk : TabOk g t) (ho : o.op = .store T x y) (hx : opS e x = some (.d (.v (ptr (rbk g i) (0 + j.toNat))))) (hy : opS e y = some (.d (.v (.int .i64 v)))) (ht : vsz P T = some (false, 1)) (h0 : 0 ≤ i) (h1 : i < t.rs.length) (k0 : 0 ≤ j) (k1 : j < g.w) : OpSt P B o e h (tabM g t) (tabM g (setC t i j v)) .u := by
  have hw := hk.w i.toNat (by omega)
  rw [Int.toNat_of_nonneg h0] at hw
  exact .storev ho hx hy ht (tab_row hk h0 h1) (by simp [iv]; omega) rfl (by rw [Nat.zero_add]; exact tab_setC hk h0 h1 (by omega))
theorem OpSt.tbD {T : TypeId} {x y : Operand} {v : Int} (ho : o.op = .store T x y) (hx : opS e x = some (.d (.v (ptr g.s 2)))) (hy : opS e y = some (.d (.v (.int .i64 v)))) (ht : vsz P T = some (false, 1)) : OpSt P B o e h (tabM g t) (tabM g { t with dn := v }) .u :=
  .storev ho hx hy ht tab_s (by simp) rfl tab_setD
theorem OpSt.tbB {T : TypeId} {x y : Operand} {j v : Int} (hk : TabOk g t) (ho : o.op = .store T x y) (hx : opS e x = some (.d (.v (ptr g.bb (0 + j.toNat))))) (hy : opS e y = some (.d (.v (.int .i64 v)))) (ht : vsz P T = some (false, 1)) (k0 : 0 ≤ j) (k1 : j < t.bs.length) : OpSt P B o e h (tabM g t) (tabM g { t with bs := t.bs.set j.toNat v }) .u := by
  have hl : j.toNat < t.bs.length := by omega
  have hb : t.bs ≠ [] := fun e => by rw [e] at hl; simp at hl
  exact .storev ho hx hy ht (tab_b hk hb) (by simp [iv]; omega) rfl (by rw [Nat.zero_add]; exact tab_setB hk hb hl)
end
theorem bquoT {t : TypeId} {m n : Int} (h0 : -4611686018427387904 ≤ m) (h1 : m ≤ 4611686018427387904) (hn : n ≠ 0) : binOp .quo t (.int .i64 m) (.int .i64 n) = pure (.int .i64 (m.tdiv n)) := by
  rw [binOp_quo]; simp only [Op.intDiv]; rw [if_neg hn, IntWalk.i64_in]
  have h2 : (m.tdiv n).natAbs ≤ m.natAbs := by rw [Int.natAbs_tdiv]; exact Nat.div_le_self _ _
  omega
theorem bremT {t : TypeId} {m n : Int} (hn : n ≠ 0) : binOp .rem t (.int .i64 m) (.int .i64 n) = pure (.int .i64 (m.tmod n)) := by
  rw [binOp_rem]; simp only [Op.intDiv]; rw [if_neg hn]
end Go.Eng
end

section
/- The simplex method on plain tableaus. -/

set_option linter.unusedSimpArgs false
set_option linter.unnecessarySimpa false
set_option linter.unusedVariables false
namespace Go.Eng
instance : Inhabited Tb := ⟨⟨[], [], 0⟩⟩
def inB (x : Int) : Prop := -1000000000 ≤ x ∧ x ≤ 1000000000
instance (x : Int) : Decidable (inB x) := inferInstanceAs (Decidable (_ ∧ _))
structure Bnd (t : Tb) : Prop where
  row : ∀ r, r ∈ t.rs → ∀ x, x ∈ r → inB x
  dn : inB t.dn
  dn0 : t.dn ≠ 0
def bndB (t : Tb) : Bool := t.rs.all (fun r => r.all fun x => decide (inB x)) && decide (inB t.dn) && decide (t.dn ≠ 0)
theorem bndB_ok {t : Tb} (h : bndB t = true) : Bnd t := by
  simp only [bndB, Bool.and_eq_true, List.all_eq_true, decide_eq_true_eq] at h
  exact ⟨h.1.1, h.1.2, h.2⟩
theorem nth_inB {l : List Int} (h : ∀ x, x ∈ l → inB x) {j : Int} : inB (nth l j) := by
  rcases Nat.lt_or_ge j.toNat l.length with h1 | h1
  · have e : nth l j = l[j.toNat] := by unfold nth; simp [h1]
    rw [e]; exact h _ (List.getElem_mem _)
  · have e : nth l j = 0 := by unfold nth; simp [h1]
    rw [e]; unfold inB; omega
theorem Bnd.cel {t : Tb} (h : Bnd t) {i j : Int} : inB (cel t i j) := by
  unfold Eng.cel
  refine nth_inB fun x hx => ?_
  rcases Nat.lt_or_ge i.toNat t.rs.length with h1 | h1
  · have e : nth t.rs i = t.rs[i.toNat] := by unfold nth; simp [h1]
    rw [e] at hx; exact h.row _ (List.getElem_mem _) x hx
  · have e : nth t.rs i = [] := by unfold nth; simp [h1]; rfl
    rw [e] at hx; cases hx
theorem mul_inB {a b : Int} (ha : inB a) (hb : inB b) : -1152921504606846976 ≤ a * b ∧ a * b ≤ 1152921504606846976 := by
  unfold inB at *
  have h1 : (a * b).natAbs = a.natAbs * b.natAbs := Int.natAbs_mul a b
  have h2 : a.natAbs * b.natAbs ≤ 1000000000 * 1000000000 := Nat.mul_le_mul (by omega) (by omega)
  omega

/-! ### pivot -/
def pvN (t : Tb) (r c : Int) (row : List Int) : List Int := (List.range row.length).map fun (j : Nat) => (nth row j * cel t r c - nth row c * cel t r j).tdiv t.dn
def pvTo (t : Tb) (r c : Int) (k : Nat) : Tb := { t with rs := (List.range t.rs.length).map fun (i : Nat) => if i < k ∧ (i : Int) ≠ r then pvN t r c (nth t.rs i) else nth t.rs i }
def pvIn (t : Tb) (r c : Int) (k l : Nat) : Tb := { pvTo t r c k with rs := (pvTo t r c k).rs.set k ((pvN t r c (nth t.rs k)).take l ++ (nth t.rs k).drop l) }
section
variable {t : Tb} {r c : Int} {k l : Nat}
theorem range_nth {α : Type} [Inhabited α] (l : List α) : ((List.range l.length).map fun (i : Nat) => nth l i) = l := by
  refine List.ext_getElem (by simp) fun i h1 h2 => ?_
  simp [nth_eq h2]
theorem nth_rangeMap {α : Type} [Inhabited α] {n : Nat} {f : Nat → α} {i : Nat} (h : i < n) : nth ((List.range n).map f) i = f i := by
  rw [nth_eq (by simpa using h)]; simp
theorem pv_0 : t = pvTo t r c 0 := by
  unfold pvTo; simp only [Nat.not_lt_zero, false_and, if_false]; rw [range_nth]
theorem pv_len : (pvTo t r c k).rs.length = t.rs.length := by simp [pvTo]
theorem pv_at {i : Nat} (hi : i < t.rs.length) : nth (pvTo t r c k).rs i = if i < k ∧ (i : Int) ≠ r then pvN t r c (nth t.rs i) else nth t.rs i := by
  unfold pvTo; exact nth_rangeMap hi
theorem pv_skip (h : (k : Int) = r) : pvTo t r c (k + 1) = pvTo t r c k := by
  unfold pvTo
  congr 1
  refine List.map_congr_left fun i _ => ?_
  by_cases hi : i < k ∧ (i : Int) ≠ r
  · rw [if_pos hi, if_pos ⟨by omega, hi.2⟩]
  · rw [if_neg hi, if_neg (fun h2 => hi ⟨by omega, h2.2⟩)]
theorem pvN_len {row : List Int} : (pvN t r c row).length = row.length := by simp [pvN]
theorem pvIn_len : (pvIn t r c k l).rs.length = t.rs.length := by simp [pvIn, pv_len]
theorem pvIn_0 (hk : k < t.rs.length) : pvTo t r c k = pvIn t r c k 0 := by
  have e : nth t.rs k = nth (pvTo t r c k).rs k := by rw [pv_at hk, if_neg (by omega)]
  unfold pvIn
  simp only [List.take_zero, List.nil_append, List.drop_zero]
  have hk' : k < (pvTo t r c k).rs.length := by rw [pv_len]; exact hk
  rw [e, nth_eq hk', List.set_getElem_self]
theorem pvIn_row (hk : k < t.rs.length) : nth (pvIn t r c k l).rs k = (pvN t r c (nth t.rs k)).take l ++ (nth t.rs k).drop l := by
  have hk' : k < (pvTo t r c k).rs.length := by rw [pv_len]; exact hk
  unfold pvIn
  rw [nth_set (by omega) (by omega), if_pos (by simp)]
theorem pvIn_oth {i : Nat} (hi : i < t.rs.length) (hne : i ≠ k) : nth (pvIn t r c k l).rs i = nth (pvTo t r c k).rs i := by
  unfold pvIn
  rw [nth_set (by omega) (by rw [pv_len]; omega), if_neg (by simpa using hne)]
theorem mix_len {a b : List Int} {l : Nat} (h : a.length = b.length) : (a.take l ++ b.drop l).length = b.length := by simp; omega
theorem mix_at {a b : List Int} {l : Nat} (h : a.length = b.length) (hl : l < b.length) : nth (a.take l ++ b.drop l) l = nth b l := by
  rw [nth_eq (by rw [mix_len h]; exact hl), nth_eq hl, List.getElem_append_right (by simp; omega)]
  simp only [List.length_take, List.getElem_drop]
  congr 1; omega
theorem mix_s {a b : List Int} {l : Nat} (h : a.length = b.length) (hl : l < b.length) : (a.take l ++ b.drop l).set l (nth a l) = a.take (l + 1) ++ b.drop (l + 1) := by
  rw [nth_eq (by omega : l < a.length)]
  refine List.ext_getElem (by simp; omega) fun i h1 h2 => ?_
  rw [List.getElem_set]
  by_cases hi : l = i
  · subst hi
    rw [if_pos rfl, List.getElem_append_left (by simp; omega)]; simp
  · rw [if_neg hi]
    by_cases hlt : i < l
    · rw [List.getElem_append_left (by simp; omega), List.getElem_append_left (by simp; omega)]; simp
    · rw [List.getElem_append_right (by simp; omega), List.getElem_append_right (by simp; omega)]
      simp only [List.length_take, List.getElem_drop]
      congr 1; omega
theorem mix_end {a b : List Int} (h : a.length = b.length) : a.take b.length ++ b.drop b.length = a := by
  rw [List.drop_length, List.append_nil, ← h, List.take_length]
theorem pvIn_cel (hk : k < t.rs.length) (hl : l < (nth t.rs k).length) : cel (pvIn t r c k l) k l = cel t k l := by
  unfold cel; rw [pvIn_row hk, mix_at pvN_len hl]
theorem pvIn_r {j : Int} (hr0 : 0 ≤ r) (hr : r < t.rs.length) (hne : (k : Int) ≠ r) : cel (pvIn t r c k l) r j = cel t r j := by
  obtain ⟨m, rfl⟩ := Int.eq_ofNat_of_zero_le hr0
  unfold cel; rw [pvIn_oth (by omega) (by omega), pv_at (by omega), if_neg (by simp)]
theorem pvTo_k {j : Int} (hk : k < t.rs.length) : cel (pvTo t r c k) k j = cel t k j := by
  unfold cel; rw [pv_at hk, if_neg (by omega)]
theorem pvIn_s (hk : k < t.rs.length) (hl : l < (nth t.rs k).length) : setC (pvIn t r c k l) k l ((cel t k l * cel t r c - cel t k c * cel t r l).tdiv t.dn) = pvIn t r c k (l + 1) := by
  have hv : (cel t k l * cel t r c - cel t k c * cel t r l).tdiv t.dn = nth (pvN t r c (nth t.rs k)) l := by
    unfold pvN; rw [nth_rangeMap hl]; rfl
  rw [hv]
  unfold setC
  rw [pvIn_row hk]
  simp only [Int.toNat_natCast]
  rw [mix_s pvN_len hl]
  simp [pvIn]
theorem pvIn_end (hk : k < t.rs.length) (hne : (k : Int) ≠ r) : pvIn t r c k (nth t.rs k).length = pvTo t r c (k + 1) := by
  unfold pvIn
  rw [mix_end pvN_len]
  have key : (pvTo t r c k).rs.set k (pvN t r c (nth t.rs k)) = (pvTo t r c (k + 1)).rs := ?_
  · rw [key]; rfl
  unfold pvTo
  refine List.ext_getElem (by simp) fun i h1 h2 => ?_
  rw [List.getElem_set]
  simp only [List.getElem_map, List.getElem_range]
  by_cases hi : k = i
  · subst hi; rw [if_pos rfl, if_pos ⟨by omega, hne⟩]
  · rw [if_neg hi]
    by_cases h : i < k ∧ (i : Int) ≠ r
    · rw [if_pos h, if_pos ⟨by omega, h.2⟩]
    · rw [if_neg h, if_neg (fun h3 => h ⟨by omega, h3.2⟩)]
theorem pvTo_w {i : Nat} (hi : i < t.rs.length) : (nth (pvTo t r c k).rs i).length = (nth t.rs i).length := by
  rw [pv_at hi]; split
  · exact pvN_len
  · rfl
theorem pvIn_w {i : Nat} (hi : i < t.rs.length) (hk : k < t.rs.length) : (nth (pvIn t r c k l).rs i).length = (nth t.rs i).length := by
  by_cases h : i = k
  · subst h; rw [pvIn_row hk, mix_len pvN_len]
  · rw [pvIn_oth hi h, pvTo_w hi]
theorem pvTo_ok {g : Ids} (h : TabOk g t) : TabOk g (pvTo t r c k) := h.mono pv_len (fun i hi => pvTo_w hi) rfl
theorem pvIn_ok {g : Ids} (hk : k < t.rs.length) (h : TabOk g t) : TabOk g (pvIn t r c k l) := h.mono pvIn_len (fun i hi => pvIn_w hi hk) rfl
/-! negative rows -/
def ngN (row : List Int) : List Int := row.map fun x => -x
def ngTo (t : Tb) (k : Nat) : Tb := { t with rs := (List.range t.rs.length).map fun (i : Nat) => if i < k then ngN (nth t.rs i) else nth t.rs i }
def ngIn (t : Tb) (k l : Nat) : Tb := { ngTo t k with rs := (ngTo t k).rs.set k ((ngN (nth t.rs k)).take l ++ (nth t.rs k).drop l) }
theorem ngN_len {row : List Int} : (ngN row).length = row.length := by simp [ngN]
theorem ng_0 : t = ngTo t 0 := by
  unfold ngTo; simp only [Nat.not_lt_zero, if_false]; rw [range_nth]
theorem ng_len : (ngTo t k).rs.length = t.rs.length := by simp [ngTo]
theorem ng_at {i : Nat} (hi : i < t.rs.length) : nth (ngTo t k).rs i = if i < k then ngN (nth t.rs i) else nth t.rs i := by
  unfold ngTo; exact nth_rangeMap hi
theorem ngIn_len : (ngIn t k l).rs.length = t.rs.length := by simp [ngIn, ng_len]
theorem ngIn_0 (hk : k < t.rs.length) : ngTo t k = ngIn t k 0 := by
  have e : nth t.rs k = nth (ngTo t k).rs k := by rw [ng_at hk, if_neg (by omega)]
  unfold ngIn
  simp only [List.take_zero, List.nil_append, List.drop_zero]
  have hk' : k < (ngTo t k).rs.length := by rw [ng_len]; exact hk
  rw [e, nth_eq hk', List.set_getElem_self]
theorem ngIn_row (hk : k < t.rs.length) : nth (ngIn t k l).rs k = (ngN (nth t.rs k)).take l ++ (nth t.rs k).drop l := by
  have hk' : k < (ngTo t k).rs.length := by rw [ng_len]; exact hk
  unfold ngIn
  rw [nth_set (by omega) (by omega), if_pos (by simp)]
theorem ngIn_cel (hk : k < t.rs.length) (hl : l < (nth t.rs k).length) : cel (ngIn t k l) k l = cel t k l := by
  unfold cel; rw [ngIn_row hk, mix_at ngN_len hl]
theorem ngIn_s (hk : k < t.rs.length) (hl : l < (nth t.rs k).length) : setC (ngIn t k l) k l (-(cel t k l)) = ngIn t k (l + 1) := by
  have hv : -(cel t k l) = nth (ngN (nth t.rs k)) l := by
    unfold ngN cel; rw [nth_eq (l := (nth t.rs k).map fun x => -x) (by simpa using hl), nth_eq hl]; simp
  rw [hv]
  unfold setC
  rw [ngIn_row hk]
  simp only [Int.toNat_natCast]
  rw [mix_s ngN_len hl]
  simp [ngIn]
theorem ngIn_end (hk : k < t.rs.length) : ngIn t k (nth t.rs k).length = ngTo t (k + 1) := by
  unfold ngIn
  rw [mix_end ngN_len]
  have key : (ngTo t k).rs.set k (ngN (nth t.rs k)) = (ngTo t (k + 1)).rs := ?_
  · rw [key]; rfl
  unfold ngTo
  refine List.ext_getElem (by simp) fun i h1 h2 => ?_
  rw [List.getElem_set]
  simp only [List.getElem_map, List.getElem_range]
  by_cases hi : k = i
  · subst hi; rw [if_pos rfl, if_pos (by omega)]
  · rw [if_neg hi]
    by_cases h : i < k
    · rw [if_pos h, if_pos (by omega)]
    · rw [if_neg h, if_neg (by omega)]
theorem ngTo_w {i : Nat} (hi : i < t.rs.length) : (nth (ngTo t k).rs i).length = (nth t.rs i).length := by
  rw [ng_at hi]; split
  · exact ngN_len
  · rfl
theorem ngIn_w {i : Nat} (hi : i < t.rs.length) (hk : k < t.rs.length) : (nth (ngIn t k l).rs i).length = (nth t.rs i).length := by
  by_cases h : i = k
  · subst h; rw [ngIn_row hk, mix_len ngN_len]
  · unfold ngIn
    rw [nth_set (by omega) (by rw [ng_len]; omega), if_neg (by simpa using h), ngTo_w hi]
theorem ngTo_ok {g : Ids} (h : TabOk g t) : TabOk g (ngTo t k) := h.mono ng_len (fun i hi => ngTo_w hi) rfl
theorem ngIn_ok {g : Ids} (hk : k < t.rs.length) (h : TabOk g t) : TabOk g (ngIn t k l) := h.mono ngIn_len (fun i hi => ngIn_w hi hk) rfl
def pivA (t : Tb) (r c : Int) : Tb := ⟨(pvTo t r c t.rs.length).rs, t.bs.set r.toNat c, cel t r c⟩
def pivN (t : Tb) (r c : Int) : Tb := ⟨(pvTo t r c t.rs.length).rs, t.bs.set r.toNat c, -(cel t r c)⟩
def pivF (t : Tb) (r c : Int) : Tb := if cel t r c < 0 then ngTo (pivN t r c) t.rs.length else pivA t r c
theorem pivA_ok {g : Ids} (h : TabOk g t) : TabOk g (pivA t r c) := h.mono pv_len (fun i hi => pvTo_w hi) (by simp [pivA])
theorem pivN_ok {g : Ids} (h : TabOk g t) : TabOk g (pivN t r c) := h.mono pv_len (fun i hi => pvTo_w hi) (by simp [pivN])
theorem pivN_rl : (pivN t r c).rs.length = t.rs.length := pv_len
theorem pivF_ok {g : Ids} (h : TabOk g t) : TabOk g (pivF t r c) := by
  unfold pivF; split
  · exact ngTo_ok (pivN_ok h)
  · exact pivA_ok h
theorem pivF_bl : (pivF t r c).bs.length = t.bs.length := by unfold pivF; split <;> simp [pivA, pivN, ngTo]
theorem pivF_rl : (pivF t r c).rs.length = t.rs.length := by unfold pivF; split <;> simp [pivA, pivN, ngTo, pvTo]
theorem pivF_1 (h : cel t r c < 0) : pivF t r c = ngTo (pivN t r c) t.rs.length := by unfold pivF; rw [if_pos h]
theorem pivF_0 (h : ¬ cel t r c < 0) : pivF t r c = pivA t r c := by unfold pivF; rw [if_neg h]
theorem pvN_in (hb : Bnd t) {i : Int} {j : Nat} (hj : j < (nth t.rs i).length) : -2305843009213693952 ≤ nth (pvN t r c (nth t.rs i)) j ∧ nth (pvN t r c (nth t.rs i)) j ≤ 2305843009213693952 := by
  unfold pvN
  rw [nth_rangeMap hj]
  have m1 := mul_inB (hb.cel (i := i) (j := (j : Int))) (hb.cel (i := r) (j := c))
  have m2 := mul_inB (hb.cel (i := i) (j := c)) (hb.cel (i := r) (j := (j : Int)))
  have h2 := Int.natAbs_tdiv (cel t i j * cel t r c - cel t i c * cel t r j) t.dn
  have h3 : ((cel t i j * cel t r c - cel t i c * cel t r j).tdiv t.dn).natAbs ≤ (cel t i j * cel t r c - cel t i c * cel t r j).natAbs := by rw [h2]; exact Nat.div_le_self _ _
  unfold cel at *
  omega
theorem pivN_in (hb : Bnd t) {i j : Nat} (hi : i < t.rs.length) (hj : j < (nth t.rs i).length) : -2305843009213693952 ≤ cel (pivN t r c) i j ∧ cel (pivN t r c) i j ≤ 2305843009213693952 := by
  have e : cel (pivN t r c) i j = nth (nth (pvTo t r c t.rs.length).rs i) j := rfl
  rw [e, pv_at hi]
  split
  · exact pvN_in hb hj
  · have := hb.cel (i := (i : Int)) (j := (j : Int)); unfold inB cel at this; omega
end
end Go.Eng
end

section
/- Walks, written by gen.py out of hints. -/



set_option linter.unusedVariables false
set_option linter.unusedSimpArgs false
namespace Go.Proofs.Ytlidcpmdgceboaa
open Go.Eng
set_option maxRecDepth 10000
set_option maxHeartbeats 1000000

theorem linear_tableau_pivot_P (g : Ids) (t : Tb) (hk : TabOk g t) (hb : Bnd t) (r c : Int) (h0 : 0 ≤ r) (h1 : r < t.bs.length) (h2 : t.bs.length ≤ t.rs.length) (k0 : 0 ≤ c) (k1 : c < g.w) : DoesP Try.prog 84 [ptr g.s 0, .int .i64 r, .int .i64 c] (.tuple #[]) (tabF g t) (tabF g (pivF t r c)) := by
 have hrr : r < t.rs.length := by omega
 have hrm := hk.rm
 have hwm := hk.wm
 have hbm := hk.bm
 refine DoesP.of_body Try.func84 rfl rfl (by simp) Try.call84 (fun b => tab_dom b) (fun O0 Oc W => ?_); refine .seq ?_; refine .region ?_; refine .m ?_; refine .x (OpSem.nilv rfl rfl) ?_; refine .x (OpSem.fieldv rfl rfl fo99_0) ?_; refine .x (OpSem.tb0 (h := 0) rfl rfl rfl vs37) ?_; refine .m ?_; refine .x (OpSem.idxv rfl rfl rfl es37 rfl (by omega) (by omega)) ?_; refine .x (OpSem.tbR (h := 0) hk rfl rfl rfl vs22 (by omega) (by omega)) ?_; refine .m ?_; refine .x (OpSem.idxv rfl rfl rfl es22 rfl (by omega) (by omega)) ?_; refine .x (OpSem.tbC (h := 0) hk rfl rfl rfl vs3 (by omega) (by omega) (by omega) (by omega)) ?_; refine .a ?_; refine .sq ?_; refine .seq ?_; refine .seq ?_; refine .region ?_; refine .m ?_; refine .x (OpSem.nilv rfl rfl) ?_; refine .x (OpSem.fieldv rfl rfl fo99_0) ?_; refine .x (OpSem.tb0 (h := 0) rfl rfl rfl vs37) ?_; refine .x (OpSem.lenv rfl rfl es37) ?_; refine .m ?_; refine .sq ?_; refine .block ?_; refine .loop (X := Nat) (fun k => k ≤ t.rs.length) (fun k => [(0, .d (.v (ptr g.s 0))), (1, I (r)), (2, I (c)), (6, I (cel t r c)), (27, .d (.v (slc g.r t.rs.length g.rc))), (28, I (t.rs.length)), (29, I (k))]) (fun k => [(0, tabM g (pvTo t r c k)), (1000, .fr (frK Oc W))]) (fun k => t.rs.length - k) 0 (by omega) ?_ ?_
 ·exact .slot rfl (.refl _) <| .slot rfl (.refl _) <| .slot rfl (.refl _) <| .slot rfl (.refl _) <| .slot rfl (.refl _) <| .slot rfl (.refl _) <| .slot rfl (Le.of_eq (by simp)) <| .memEq rfl (by rw [← pv_0]) <| .mem rfl <| .nil
 ·rintro k hkl
  have hpk : (pvTo t r c k).rs.length = t.rs.length := pv_len
  refine .seq ?_; refine .region ?_; refine .x (.b blss) ?_; refine .sq ?_; refine .seq ?_; refine .cond rfl (fun c30 => ?_) (fun c30 => ?_)
  ·have hkl2 : k < t.rs.length := by simp at c30; omega
   have hwk := hk.w k hkl2
   refine .skip ?_; refine .seq ?_; refine .seq ?_; refine .block ?_; refine .seq ?_; refine .region ?_; refine .m ?_; refine .x (OpSem.idxv rfl rfl rfl es37 rfl (by omega) (by omega)) ?_; refine .x (OpSem.tbR (h := 0) (pvTo_ok (r := r) (c := c) (k := k) hk) rfl rfl rfl vs22 (by omega) (by omega)) ?_; refine .a ?_; refine .a ?_; refine .sq ?_; refine .seq ?_; refine .seq ?_; refine .region ?_; refine .m ?_; refine .m ?_; refine .x (.b beql) ?_; refine .sq ?_; refine .cond rfl (fun c36 => ?_) (fun c36 => ?_)
   ·have he : (k : Int) = r := by simpa using c36
    refine .exit ?_; refine .pass_exit ?_; refine .block_same ?_; refine .y ?_; refine .x .ad ?_; refine .m ?_; refine .nil ?_; refine .again (k + 1) (by omega) ?_ (by omega); exact .slot rfl (.refl _) <| .slot rfl (.refl _) <| .slot rfl (.refl _) <| .slot rfl (.refl _) <| .slot rfl (.refl _) <| .slot rfl (.refl _) <| .slot rfl (Le.of_eq (by simp)) <| .memEq rfl (by rw [pv_skip he]) <| .mem rfl <| .nil
   ·have he : (k : Int) ≠ r := by simpa using c36
    refine .skip ?_; refine .z ?_; refine .m ?_; refine .m ?_; refine .x (OpSem.idxv rfl rfl rfl es22 rfl (by omega) (by omega)) ?_; refine .x (OpSem.tbC (h := 0) (pvTo_ok (r := r) (c := c) (k := k) hk) rfl rfl rfl vs3 (by omega) (by omega) (by omega) (by omega)) ?_; refine .a ?_; refine .z ?_; refine .m ?_; refine .x (OpSem.lenv rfl rfl es22) ?_; refine .m ?_; refine .sq ?_; refine .block ?_; refine .loop (X := Nat) (fun l => l ≤ (nth t.rs k).length) (fun l => [(0, .d (.v (ptr g.s 0))), (1, I (r)), (2, I (c)), (6, I (cel t r c)), (8, .d (.v (slc (rbk g k) g.w (rck g k)))), (9, I (cel (pvTo t r c k) k c)), (27, .d (.v (slc g.r t.rs.length g.rc))), (28, I (t.rs.length)), (29, I (k)), (42, I (g.w)), (43, I (l))]) (fun l => [(0, tabM g (pvIn t r c k l)), (1000, .fr (frK Oc W))]) (fun l => (nth t.rs k).length - l) 0 (by omega) ?_ ?_
    ·exact .slot rfl (.refl _) <| .slot rfl (.refl _) <| .slot rfl (.refl _) <| .slot rfl (.refl _) <| .slot rfl (.refl _) <| .slot rfl (.refl _) <| .slot rfl (.refl _) <| .slot rfl (.refl _) <| .slot rfl (.refl _) <| .slot rfl (.refl _) <| .slot rfl (Le.of_eq (by simp)) <| .memEq rfl (by rw [← pvIn_0 hkl2]) <| .mem rfl <| .nil
    ·rintro l hll
     refine .seq ?_; refine .region ?_; refine .x (.b blss) ?_; refine .sq ?_; refine .seq ?_; refine .cond rfl (fun c44 => ?_) (fun c44 => ?_)
     ·have hl : l < (nth t.rs k).length := by simp at c44; omega
      have hlw : l < g.w := by omega
      have m1 := mul_inB (hb.cel (i := (k : Int)) (j := (l : Int))) (hb.cel (i := r) (j := c))
      have m2 := mul_inB (hb.cel (i := (k : Int)) (j := c)) (hb.cel (i := r) (j := (l : Int)))
      have hpl : (pvIn t r c k l).rs.length = t.rs.length := pvIn_len
      have e1 : cel (pvIn t r c k l) k l = cel t k l := pvIn_cel hkl2 hl
      have e2 : cel (pvIn t r c k l) r l = cel t r l := pvIn_r h0 hrr he
      refine .skip ?_; refine .seq ?_; refine .seq ?_; refine .block ?_; refine .seq ?_; refine .region ?_; refine .m ?_; refine .a ?_; refine .sq ?_; refine PC.start [] ?_; refine .m ?_; refine .m ?_; refine .m ?_; refine .m ?_; refine .x (OpSem.idxv rfl rfl rfl es22 rfl (by omega) (by omega)) ?_; refine .x (OpSem.tbC (h := 0) (pvIn_ok (r := r) (c := c) (l := l) hkl2 hk) rfl rfl rfl vs3 (by omega) (by omega) (by omega) (by omega)) ?_; refine .m ?_; refine .x (OpSem.bin rfl rfl rfl (bmul (by rw [e1]; omega) (by rw [e1]; omega))) ?_; refine .m ?_; refine .m ?_; refine .x (OpSem.nilv rfl rfl) ?_; refine .x (OpSem.fieldv rfl rfl fo99_0) ?_; refine .x (OpSem.tb0 (h := 0) rfl rfl rfl vs37) ?_; refine .m ?_; refine .x (OpSem.idxv rfl rfl rfl es37 rfl (by omega) (by omega)) ?_; refine .x (OpSem.tbR (h := 0) (pvIn_ok (r := r) (c := c) (l := l) hkl2 hk) rfl rfl rfl vs22 (by omega) (by omega)) ?_; refine .m ?_; refine .x (OpSem.idxv rfl rfl rfl es22 rfl (by omega) (by omega)) ?_; refine .x (OpSem.tbC (h := 0) (pvIn_ok (r := r) (c := c) (l := l) hkl2 hk) rfl rfl rfl vs3 (by omega) (by omega) (by omega) (by omega)) ?_; refine .x (OpSem.bin rfl rfl rfl (bmul (by rw [pvTo_k hkl2, e2]; omega) (by rw [pvTo_k hkl2, e2]; omega))) ?_; refine .x (OpSem.bin rfl rfl rfl (bsub (by rw [e1, pvTo_k hkl2, e2]; omega) (by rw [e1, pvTo_k hkl2, e2]; omega))) ?_; refine .m ?_; refine .x (OpSem.nilv rfl rfl) ?_; refine .x (OpSem.fieldv rfl rfl fo99_2) ?_; refine .x (OpSem.tb2 (h := 0) rfl rfl rfl vs3) ?_; refine .x (OpSem.bin rfl rfl rfl (bquoT (by rw [e1, pvTo_k hkl2, e2]; omega) (by rw [e1, pvTo_k hkl2, e2]; omega) hb.dn0)) ?_; refine .d0 mixed ?_; refine .x (OpSem.idxv rfl rfl rfl es22 rfl (by omega) (by omega)) ?_; refine .ofSt0 (OpSt.tbC (h := 0) (pvIn_ok (r := r) (c := c) (l := l) hkl2 hk) rfl rfl rfl vs3 (by omega) (by omega) (by omega) (by omega)) rfl rfl rfl ?_; refine .nil ?_; refine .block_normal ?_; refine .y ?_; refine .x .ad ?_; refine .m ?_; refine .nil ?_; refine .again (l + 1) (by omega) ?_ (by omega); exact .slot rfl (.refl _) <| .slot rfl (.refl _) <| .slot rfl (.refl _) <| .slot rfl (.refl _) <| .slot rfl (.refl _) <| .slot rfl (.refl _) <| .slot rfl (.refl _) <| .slot rfl (.refl _) <| .slot rfl (.refl _) <| .slot rfl (.refl _) <| .slot rfl (Le.of_eq (by simp)) <| .memEq rfl (by rw [e1, pvTo_k hkl2, e2, ← pvIn_s hkl2 hl]; rfl) <| .mem rfl <| .nil
     ·have hl : l = (nth t.rs k).length := by simp at c44; omega
      subst hl
      refine .exit ?_; refine .pass_exit ?_; refine .pass_exit ?_; refine .block_same ?_; refine .block_normal ?_; refine .y ?_; refine .x .ad ?_; refine .m ?_; refine .nil ?_; refine .again (k + 1) (by omega) ?_ (by omega); exact .slot rfl (.refl _) <| .slot rfl (.refl _) <| .slot rfl (.refl _) <| .slot rfl (.refl _) <| .slot rfl (.refl _) <| .slot rfl (.refl _) <| .slot rfl (Le.of_eq (by simp)) <| .memEq rfl (by rw [pvIn_end hkl2 he]) <| .mem rfl <| .nil
  ·have hkl2 : k = t.rs.length := by simp at c30; omega
   have hpb : (pvTo t r c k).bs.length = t.bs.length := rfl
   refine .exit ?_; refine .pass_exit ?_; refine .pass_exit ?_; refine .block_same ?_; refine .seq ?_; refine .cut [(0, .d (.v (ptr g.s 0))), (6, I (cel t r c))] [(0, tabM g (pivA t r c)), (1000, .fr (frK Oc W))] ?_ ?_
   ·refine .region ?_; refine .m ?_; refine .x (OpSem.nilv rfl rfl) ?_; refine .x (OpSem.fieldv rfl rfl fo99_1) ?_; refine .x (OpSem.tb1 (h := 0) rfl rfl rfl vs22) ?_; refine .m ?_; refine .m ?_; refine .m ?_; refine .m ?_; refine .x (OpSem.idxv rfl rfl rfl es22 ((pvTo_ok (r := r) (c := c) (k := k) hk).at (j := r) (by omega) (by omega)) (by omega) (by omega)) ?_; refine .ofSt0 (OpSt.tbB (h := 0) (pvTo_ok (r := r) (c := c) (k := k) hk) rfl rfl rfl vs3 (by omega) (by omega)) rfl rfl rfl ?_; refine .x (OpSem.nilv rfl rfl) ?_; refine .x (OpSem.fieldv rfl rfl fo99_2) ?_; refine .ofSt0 (OpSt.tbD (h := 0) rfl rfl rfl vs3) rfl rfl rfl ?_; refine .nil ?_; refine .meet ?_; exact .slot rfl (.refl _) <| .slot rfl (.refl _) <| .memEq rfl (by rw [hkl2]; rfl) <| .mem rfl <| .nil
   ·refine .seq ?_; refine .region ?_; refine .m ?_; refine .x (.b blss) ?_; refine .sq ?_; refine .cond rfl (fun c87 => ?_) (fun c87 => ?_)
    ·have hneg : cel t r c < 0 := by simpa using c87
     have hpc := hb.cel (i := r) (j := c)
     unfold inB at hpc
     have hpn := pivN_rl (t := t) (r := r) (c := c)
     refine .cut [(0, .d (.v (ptr g.s 0)))] [(0, tabM g (pivN t r c)), (1000, .fr (frK Oc W))] ?_ ?_
     ·refine .region ?_; refine .m ?_; refine .m ?_; refine .x (OpSem.neg rfl rfl (neg_in (by omega) (by omega))) ?_; refine .x (OpSem.nilv rfl rfl) ?_; refine .x (OpSem.fieldv rfl rfl fo99_2) ?_; refine .ofSt0 (OpSt.tbD (h := 0) rfl rfl rfl vs3) rfl rfl rfl ?_; refine .nil ?_; refine .meet ?_; exact .all
     ·refine .seq ?_; refine .region ?_; refine .m ?_; refine .x (OpSem.nilv rfl rfl) ?_; refine .x (OpSem.fieldv rfl rfl fo99_0) ?_; refine .x (OpSem.tb0 (h := 0) rfl rfl rfl vs37) ?_; refine .x (OpSem.lenv rfl rfl es37) ?_; refine .m ?_; refine .sq ?_; refine .block ?_; refine .loop (X := Nat) (fun k => k ≤ t.rs.length) (fun k => [(96, .d (.v (slc g.r ((pivN t r c).rs.length) g.rc))), (97, I ((pivN t r c).rs.length)), (98, I (k))]) (fun k => [(0, tabM g (ngTo (pivN t r c) k)), (1000, .fr (frK Oc W))]) (fun k => t.rs.length - k) 0 (by omega) ?_ ?_
      ·exact .slot rfl (.refl _) <| .slot rfl (.refl _) <| .slot rfl (Le.of_eq (by simp)) <| .memEq rfl (by rw [← ng_0]) <| .mem rfl <| .nil
      ·rintro k hkl
       refine .seq ?_; refine .region ?_; refine .x (.b blss) ?_; refine .sq ?_; refine .seq ?_; refine .cond rfl (fun c99 => ?_) (fun c99 => ?_)
       ·have hkl2 : k < t.rs.length := by simp at c99; omega
        have hwk := hk.w k hkl2
        have hkA : k < (pivN t r c).rs.length := by omega
        have hwA := (pivN_ok (r := r) (c := c) hk).w k hkA
        have hngl : (ngTo (pivN t r c) k).rs.length = t.rs.length := ng_len.trans hpn
        refine .skip ?_; refine .seq ?_; refine .seq ?_; refine .block ?_; refine .seq ?_; refine .region ?_; refine .x (OpSem.idxv rfl rfl rfl es37 rfl (by omega) (by omega)) ?_; refine .x (OpSem.tbR (h := 0) (ngTo_ok (k := k) (pivN_ok (r := r) (c := c) hk)) rfl rfl rfl vs22 (by omega) (by omega)) ?_; refine .a ?_; refine .z ?_; refine .m ?_; refine .x (OpSem.lenv rfl rfl es22) ?_; refine .m ?_; refine .sq ?_; refine .block ?_; refine .loop (X := Nat) (fun l => l ≤ g.w) (fun l => [(12, .d (.v (slc (rbk g k) g.w (rck g k)))), (96, .d (.v (slc g.r ((pivN t r c).rs.length) g.rc))), (97, I ((pivN t r c).rs.length)), (98, I (k)), (103, I (g.w)), (104, I (l))]) (fun l => [(0, tabM g (ngIn (pivN t r c) k l)), (1000, .fr (frK Oc W))]) (fun l => g.w - l) 0 (by omega) ?_ ?_
        ·exact .slot rfl (.refl _) <| .slot rfl (.refl _) <| .slot rfl (.refl _) <| .slot rfl (.refl _) <| .slot rfl (.refl _) <| .slot rfl (Le.of_eq (by simp)) <| .memEq rfl (by rw [← ngIn_0 hkA]) <| .mem rfl <| .nil
        ·rintro l hll
         refine .seq ?_; refine .region ?_; refine .x (.b blss) ?_; refine .sq ?_; refine .seq ?_; refine .cond rfl (fun c105 => ?_) (fun c105 => ?_)
         ·have hl : l < g.w := by simp at c105; omega
          have hc1 := ngIn_cel hkA (l := l) (by omega)
          have hc2 := pivN_in (r := r) (c := c) hb hkl2 (j := l) (by omega)
          have hnil : (ngIn (pivN t r c) k l).rs.length = t.rs.length := ngIn_len.trans hpn
          refine .skip ?_; refine .seq ?_; refine .seq ?_; refine .block ?_; refine .seq ?_; refine .region ?_; refine .m ?_; refine .a ?_; refine .y ?_; refine .m ?_; refine .m ?_; refine .m ?_; refine .m ?_; refine .x (OpSem.idxv rfl rfl rfl es22 rfl (by omega) (by omega)) ?_; refine .x (OpSem.tbC (h := 0) (ngIn_ok (l := l) hkA (pivN_ok (r := r) (c := c) hk)) rfl rfl rfl vs3 (by omega) (by omega) (by omega) (by omega)) ?_; refine .x (OpSem.neg rfl rfl (neg_in (by rw [hc1]; omega) (by rw [hc1]; omega))) ?_; refine .x (OpSem.idxv rfl rfl rfl es22 rfl (by omega) (by omega)) ?_; refine .ofSt0 (OpSt.tbC (h := 0) (ngIn_ok (l := l) hkA (pivN_ok (r := r) (c := c) hk)) rfl rfl rfl vs3 (by omega) (by omega) (by omega) (by omega)) rfl rfl rfl ?_; refine .nil ?_; refine .block_normal ?_; refine .y ?_; refine .x .ad ?_; refine .m ?_; refine .nil ?_; refine .again (l + 1) (by omega) ?_ (by omega); exact .slot rfl (.refl _) <| .slot rfl (.refl _) <| .slot rfl (.refl _) <| .slot rfl (.refl _) <| .slot rfl (.refl _) <| .slot rfl (Le.of_eq (by simp)) <| .memEq rfl (by rw [hc1, ← ngIn_s hkA (by omega)]) <| .mem rfl <| .nil
         ·have hl : l = g.w := by simp at c105; omega
          subst hl
          refine .exit ?_; refine .pass_exit ?_; refine .pass_exit ?_; refine .block_same ?_; refine .block_normal ?_; refine .y ?_; refine .x .ad ?_; refine .m ?_; refine .nil ?_; refine .again (k + 1) (by omega) ?_ (by omega); exact .slot rfl (.refl _) <| .slot rfl (.refl _) <| .slot rfl (Le.of_eq (by simp)) <| .memEq rfl (by rw [← hwA, ngIn_end hkA]) <| .mem rfl <| .nil
       ·have hkl2 : k = t.rs.length := by simp at c99; omega
        subst hkl2
        refine .exit ?_; refine .pass_exit ?_; refine .pass_exit ?_; refine .block_same ?_; exact .retP (.inr rfl) rfl .nil rfl rfl (by first | rw [pivF_1 hneg] | rw [pivF_0 hneg]) (fun H => rfl)
    ·have hneg : ¬ cel t r c < 0 := by simpa using c87
     refine .skip ?_; exact .retP (.inr rfl) rfl .nil rfl rfl (by first | rw [pivF_1 hneg] | rw [pivF_0 hneg]) (fun H => rfl)

end Go.Proofs.Ytlidcpmdgceboaa
end

section
/- The simplex method on plain tableaus, part 2: the row that leaves, the run, the start. -/

set_option linter.unusedSimpArgs false
set_option linter.unnecessarySimpa false
set_option linter.unusedVariables false
namespace Go.Eng
def lvC (t : Tb) (c : Int) (w : Nat) (b i : Int) : Prop :=
  cel t i (w - 1) * cel t b c < cel t b (w - 1) * cel t i c ∨ (cel t i (w - 1) * cel t b c = cel t b (w - 1) * cel t i c ∧ nth t.bs i < nth t.bs b)
instance (t : Tb) (c : Int) (w : Nat) (b i : Int) : Decidable (lvC t c w b i) := inferInstanceAs (Decidable (_ ∨ _))
def lvStep (t : Tb) (c : Int) (w : Nat) (b i : Int) : Int := if cel t i c ≤ 0 then b else if b < 0 then i else if lvC t c w b i then i else b
def lvTo (t : Tb) (c : Int) (w : Nat) : Nat → Int
  | 0 => -1
  | k + 1 => lvStep t c w (lvTo t c w k) k
def lvF (t : Tb) (c : Int) (w : Nat) : Int := lvTo t c w t.bs.length
section
variable {t t' t2 t3 : Tb} {c x : Int} {w k : Nat}
theorem lv_in : ∀ {k : Nat}, -1 ≤ lvTo t c w k ∧ lvTo t c w k < k
  | 0 => by simp [lvTo]
  | k + 1 => by
    have := lv_in (k := k)
    simp only [lvTo, lvStep]
    split
    · omega
    · split
      · omega
      · split <;> omega
theorem lv_1 (h : cel t k c ≤ 0) : lvTo t c w (k + 1) = lvTo t c w k := by simp only [lvTo, lvStep]; rw [if_pos h]
theorem lv_2 (h : ¬ cel t k c ≤ 0) (hb : lvTo t c w k < 0) : lvTo t c w (k + 1) = k := by simp only [lvTo, lvStep]; rw [if_neg h, if_pos hb]
theorem lv_3 (h : ¬ cel t k c ≤ 0) (hb : ¬ lvTo t c w k < 0) (hc : lvC t c w (lvTo t c w k) k) : lvTo t c w (k + 1) = k := by simp only [lvTo, lvStep]; rw [if_neg h, if_neg hb, if_pos hc]
theorem lv_4 (h : ¬ cel t k c ≤ 0) (hb : ¬ lvTo t c w k < 0) (hc : ¬ lvC t c w (lvTo t c w k) k) : lvTo t c w (k + 1) = lvTo t c w k := by simp only [lvTo, lvStep]; rw [if_neg h, if_neg hb, if_neg hc]
theorem lvF_in : -1 ≤ lvF t c w ∧ lvF t c w < t.bs.length := lv_in
/-- The first column that improves an objective. -/
structure Ent (t : Tb) (ob : Int) (n c : Nat) : Prop where
  lt : c < n
  all : ∀ j : Nat, j < c → 0 ≤ cel t ob j
  hit : cel t ob c < 0
theorem Ent.uniq {ob : Int} {n c d : Nat} (h : Ent t ob n c) (k : Ent t ob n d) : c = d := by
  rcases Nat.lt_trichotomy c d with h1 | h1 | h1
  · have := k.all c h1; have := h.hit; omega
  · exact h1
  · have := h.all d h1; have := k.hit; omega
/-- A run of maximize. -/
inductive MaxN (w : Nat) (ob : Int) (n : Nat) : Nat → Tb → Tb → Int → Prop
  | opt {t : Tb} (hb : Bnd t) (h : ∀ j : Nat, j < n → 0 ≤ cel t ob j) : MaxN w ob n 0 t t (-1)
  | unb {t : Tb} {c : Nat} (hb : Bnd t) (h : Ent t ob n c) (hl : lvF t c w < 0) : MaxN w ob n 0 t t c
  | step {t t' : Tb} {x : Int} {k c : Nat} (hb : Bnd t) (h : Ent t ob n c) (hl : ¬ lvF t c w < 0) (hr : MaxN w ob n k (pivF t (lvF t c w) c) t' x) : MaxN w ob n (k + 1) t t' x
theorem MaxN.inv {ob : Int} {n : Nat} (h : MaxN w ob n k t t' x) : Bnd t ∧ (((∀ j : Nat, j < n → 0 ≤ cel t ob j) ∧ t' = t ∧ x = -1) ∨ (∃ c : Nat, Ent t ob n c ∧ lvF t c w < 0 ∧ t' = t ∧ x = c) ∨ ∃ c k' : Nat, Ent t ob n c ∧ ¬ lvF t c w < 0 ∧ k = k' + 1 ∧ MaxN w ob n k' (pivF t (lvF t c w) c) t' x) := by
  cases h with
  | opt hb h => exact ⟨hb, .inl ⟨h, rfl, rfl⟩⟩
  | unb hb h hl => exact ⟨hb, .inr (.inl ⟨_, h, hl, rfl, rfl⟩)⟩
  | step hb h hl hr => exact ⟨hb, .inr (.inr ⟨_, _, h, hl, rfl, hr⟩)⟩
theorem MaxN.all {ob : Int} {n : Nat} (h : MaxN w ob n k t t' x) (ha : ∀ j : Nat, j < n → 0 ≤ cel t ob j) : t' = t ∧ x = -1 := by
  rcases h.inv.2 with h | ⟨c, h, _⟩ | ⟨c, _, h, _⟩
  · exact h.2
  · have := ha c h.lt; have := h.hit; omega
  · have := ha c h.lt; have := h.hit; omega
theorem MaxN.ent {ob : Int} {n c : Nat} (h : MaxN w ob n k t t' x) (he : Ent t ob n c) (hl : lvF t c w < 0) : t' = t ∧ x = c := by
  rcases h.inv.2 with h | ⟨d, h, _, h2, h3⟩ | ⟨d, _, h, hl', _⟩
  · have := h.1 c he.lt; have := he.hit; omega
  · rw [he.uniq h]; exact ⟨h2, h3⟩
  · rw [← he.uniq h] at hl'; exact absurd hl hl'
theorem MaxN.next {ob : Int} {n c : Nat} (h : MaxN w ob n k t t' x) (he : Ent t ob n c) (hl : ¬ lvF t c w < 0) : ∃ k', k = k' + 1 ∧ MaxN w ob n k' (pivF t (lvF t c w) c) t' x := by
  rcases h.inv.2 with h | ⟨d, h, hl', _⟩ | ⟨d, k', h, _, h3, h4⟩
  · have := h.1 c he.lt; have := he.hit; omega
  · rw [← he.uniq h] at hl'; exact absurd hl' hl
  · rw [← he.uniq h] at h4; exact ⟨k', h3, h4⟩
theorem MaxN.ok {ob : Int} {n : Nat} {g : Ids} (h : MaxN w ob n k t t' x) : TabOk g t → TabOk g t' ∧ t'.bs.length = t.bs.length ∧ t'.rs.length = t.rs.length ∧ Bnd t' := by
  induction h with
  | opt hb _ => exact fun h => ⟨h, rfl, rfl, hb⟩
  | unb hb _ _ => exact fun h => ⟨h, rfl, rfl, hb⟩
  | step hb _ _ _ ih =>
    intro h
    obtain ⟨h1, h2, h3, h4⟩ := ih (pivF_ok h)
    exact ⟨h1, h2.trans pivF_bl, h3.trans pivF_rl, h4⟩
/-! ### start -/
def loC (t : Tb) (w : Nat) (b i : Int) : Prop := cel t i (w - 1) < 0 ∧ (b < 0 ∨ cel t i (w - 1) < cel t b (w - 1))
instance (t : Tb) (w : Nat) (b i : Int) : Decidable (loC t w b i) := inferInstanceAs (Decidable (_ ∧ _))
def loTo (t : Tb) (w : Nat) : Nat → Int
  | 0 => -1
  | k + 1 => if loC t w (loTo t w k) k then k else loTo t w k
def loF (t : Tb) (w : Nat) : Int := loTo t w t.bs.length
theorem lo_in : ∀ {k : Nat}, -1 ≤ loTo t w k ∧ loTo t w k < k
  | 0 => by simp [loTo]
  | k + 1 => by
    have := lo_in (k := k)
    simp only [loTo]
    split <;> omega
theorem lo_t (h : loC t w (loTo t w k) k) : loTo t w (k + 1) = k := by simp only [loTo]; rw [if_pos h]
theorem lo_f (h : ¬ loC t w (loTo t w k) k) : loTo t w (k + 1) = loTo t w k := by simp only [loTo]; rw [if_neg h]
theorem loF_in : -1 ≤ loF t w ∧ loF t w < t.bs.length := lo_in
/-- The first column of a row that is not 0. -/
structure Nzc (t : Tb) (r : Int) (w c : Nat) : Prop where
  lt : c < w
  all : ∀ j : Nat, j < c → cel t r j = 0
  hit : cel t r c ≠ 0
inductive DrvN (w : Nat) : Nat → Tb → Tb → Prop
  | done {t : Tb} {r : Nat} (h : r = t.bs.length) : DrvN w r t t
  | skip {t t' : Tb} {r : Nat} (hl : r < t.bs.length) (h : nth t.bs r ≠ (w : Int) - 2) (hn : DrvN w (r + 1) t t') : DrvN w r t t'
  | piv {t t' : Tb} {r c : Nat} (hl : r < t.bs.length) (h : nth t.bs r = (w : Int) - 2) (hb : Bnd t) (hc : Nzc t r w c) (hn : DrvN w (r + 1) (pivF t r c) t') : DrvN w r t t'
theorem DrvN.inv {r : Nat} (h : DrvN w r t t') : (r = t.bs.length ∧ t' = t) ∨ (r < t.bs.length ∧ nth t.bs r ≠ (w : Int) - 2 ∧ DrvN w (r + 1) t t') ∨ (r < t.bs.length ∧ nth t.bs r = (w : Int) - 2 ∧ Bnd t ∧ ∃ c, Nzc t r w c ∧ DrvN w (r + 1) (pivF t r c) t') := by
  cases h with
  | done h => exact .inl ⟨h, rfl⟩
  | skip hl h hn => exact .inr (.inl ⟨hl, h, hn⟩)
  | piv hl h hb hc hn => exact .inr (.inr ⟨hl, h, hb, _, hc, hn⟩)
theorem DrvN.le {r : Nat} (h : DrvN w r t t') : r ≤ t.bs.length := by
  rcases h.inv with h | h | h <;> omega
theorem DrvN.end {r : Nat} (h : DrvN w r t t') (hr : r = t.bs.length) : t' = t := by
  rcases h.inv with h | h | h
  · exact h.2
  · omega
  · omega
theorem DrvN.next {r : Nat} (h : DrvN w r t t') (hr : r < t.bs.length) (hn : nth t.bs r ≠ (w : Int) - 2) : DrvN w (r + 1) t t' := by
  rcases h.inv with h | h | h
  · omega
  · exact h.2.2
  · exact absurd h.2.1 hn
theorem DrvN.go {r : Nat} (h : DrvN w r t t') (hr : r < t.bs.length) (hn : nth t.bs r = (w : Int) - 2) : Bnd t ∧ ∃ c, Nzc t r w c ∧ DrvN w (r + 1) (pivF t r c) t' := by
  rcases h.inv with h | h | h
  · omega
  · exact absurd hn h.2.1
  · exact h.2.2
theorem DrvN.ok {r : Nat} {g : Ids} (h : DrvN w r t t') : TabOk g t → TabOk g t' ∧ t'.bs.length = t.bs.length ∧ t'.rs.length = t.rs.length := by
  induction h with
  | done h => exact fun h => ⟨h, rfl, rfl⟩
  | skip _ _ _ ih => exact ih
  | piv _ _ _ _ _ ih =>
    intro h
    obtain ⟨h1, h2, h3⟩ := ih (pivF_ok h)
    exact ⟨h1, h2.trans pivF_bl, h3.trans pivF_rl⟩
inductive StartN (w : Nat) : Tb → Tb → Bool → Prop
  | pos {t : Tb} (h : loF t w < 0) : StartN w t t true
  | no {t t2 : Tb} {k : Nat} {x : Int} (hb : Bnd t) (h : ¬ loF t w < 0) (hm : MaxN w (t.bs.length + 1) (w - 1) k (pivF t (loF t w) ((w : Int) - 2)) t2 x) (hn : cel t2 (t.bs.length + 1) ((w : Int) - 1) < 0) : StartN w t t2 false
  | yes {t t2 t3 : Tb} {k : Nat} {x : Int} (hb : Bnd t) (h : ¬ loF t w < 0) (hm : MaxN w (t.bs.length + 1) (w - 1) k (pivF t (loF t w) ((w : Int) - 2)) t2 x) (hn : ¬ cel t2 (t.bs.length + 1) ((w : Int) - 1) < 0) (hd : DrvN w 0 t2 t3) : StartN w t t3 true
theorem StartN.pos2 {b : Bool} (h : StartN w t t' b) (hl : loF t w < 0) : t' = t ∧ b = true := by
  cases h with
  | pos _ => exact ⟨rfl, rfl⟩
  | no _ h _ _ => exact absurd hl h
  | yes _ h _ _ _ => exact absurd hl h
theorem StartN.neg2 {b : Bool} (h : StartN w t t' b) (hl : ¬ loF t w < 0) : Bnd t ∧ ∃ (k : Nat) (t2 : Tb) (x : Int), MaxN w (t.bs.length + 1) (w - 1) k (pivF t (loF t w) ((w : Int) - 2)) t2 x ∧
    (cel t2 (t.bs.length + 1) ((w : Int) - 1) < 0 → t' = t2 ∧ b = false) ∧ (¬ cel t2 (t.bs.length + 1) ((w : Int) - 1) < 0 → b = true ∧ DrvN w 0 t2 t') := by
  cases h with
  | pos h => exact absurd h hl
  | no hb _ hm hn => exact ⟨hb, _, _, _, hm, fun _ => ⟨rfl, rfl⟩, fun h => absurd hn h⟩
  | yes hb _ hm hn hd => exact ⟨hb, _, _, _, hm, fun h => absurd h hn, fun _ => ⟨rfl, hd⟩⟩
theorem StartN.ok {g : Ids} {b : Bool} (h : StartN w t t' b) (hk : TabOk g t) : TabOk g t' ∧ t'.bs.length = t.bs.length ∧ t'.rs.length = t.rs.length := by
  cases h with
  | pos _ => exact ⟨hk, rfl, rfl⟩
  | no hb h hm hn =>
    obtain ⟨h1, h2, h3, _⟩ := hm.ok (pivF_ok hk)
    exact ⟨h1, h2.trans pivF_bl, h3.trans pivF_rl⟩
  | yes hb h hm hn hd =>
    obtain ⟨h1, h2, h3, _⟩ := hm.ok (pivF_ok hk)
    obtain ⟨k1, k2, k3⟩ := hd.ok h1
    exact ⟨k1, k2.trans (h2.trans pivF_bl), k3.trans (h3.trans pivF_rl)⟩
end
end Go.Eng
end

section
/- Walks, written by gen.py out of hints. -/



set_option linter.unusedVariables false
set_option linter.unusedSimpArgs false
namespace Go.Proofs.Ytlidcpmdgceboaa
open Go.Eng
set_option maxRecDepth 10000
set_option maxHeartbeats 1000000

theorem linear_tableau_leaving_P (g : Ids) (t : Tb) (hk : TabOk g t) (hb : Bnd t) (c : Int) (h2 : t.bs.length ≤ t.rs.length) (k0 : 0 ≤ c) (k1 : c < g.w) : DoesP Try.prog 86 [ptr g.s 0, .int .i64 c] (.int .i64 (lvF t c g.w)) (tabF g t) (tabF g t) := by
 have hrm := hk.rm
 have hwm := hk.wm
 have hbm := hk.bm
 refine DoesP.of_body Try.func86 rfl rfl (by simp) Try.call86 (fun b => tab_dom b) (fun O0 Oc W => ?_); refine .seq ?_; refine .region ?_; refine .a ?_; refine .z ?_; refine .a ?_; refine .sq ?_; refine .seq ?_; refine .seq ?_; refine .region ?_; refine .m ?_; refine .x (OpSem.nilv rfl rfl) ?_; refine .x (OpSem.fieldv rfl rfl fo99_1) ?_; refine .x (OpSem.tb1 (h := 0) rfl rfl rfl vs22) ?_; refine .x (OpSem.lenv rfl rfl es22) ?_; refine .m ?_; refine .sq ?_; refine .block ?_; refine .loop (X := Nat) (fun k => k ≤ t.bs.length) (fun k => [(0, .d (.v (ptr g.s 0))), (1, I (c)), (5, I ((lvTo t c g.w k))), (15, I (t.bs.length)), (16, I (k))]) (fun k => [(0, tabM g t), (1000, .fr (frK Oc W))]) (fun k => t.bs.length - k) 0 (by omega) ?_ ?_
 ·exact .slot rfl (.refl _) <| .slot rfl (.refl _) <| .slot rfl (Le.of_eq rfl) <| .slot rfl (.refl _) <| .slot rfl (Le.of_eq (by simp)) <| .mem rfl <| .mem rfl <| .nil
 ·rintro k hkl
  refine .seq ?_; refine .region ?_; refine .x (.b blss) ?_; refine .sq ?_; refine .seq ?_; refine .cond rfl (fun c17 => ?_) (fun c17 => ?_)
  ·have hkl2 : k < t.bs.length := by simp at c17; omega
   have hbi := lv_in (t := t) (c := c) (w := g.w) (k := k)
   refine .skip ?_; refine .seq ?_; refine .seq ?_; refine .block ?_; refine .seq ?_; refine .region ?_; refine .m ?_; refine .a ?_; refine .z ?_; refine .m ?_; refine .x (OpSem.nilv rfl rfl) ?_; refine .x (OpSem.fieldv rfl rfl fo99_0) ?_; refine .x (OpSem.tb0 (h := 0) rfl rfl rfl vs37) ?_; refine .m ?_; refine .x (OpSem.idxv rfl rfl rfl es37 rfl (by omega) (by omega)) ?_; refine .x (OpSem.tbR (h := 0) hk rfl rfl rfl vs22 (by omega) (by omega)) ?_; refine .a ?_; refine .sq ?_; refine .seq ?_; refine .seq ?_; refine .region ?_; refine .m ?_; refine .m ?_; refine .x (OpSem.idxv rfl rfl rfl es22 rfl (by omega) (by omega)) ?_; refine .x (OpSem.tbC (h := 0) hk rfl rfl rfl vs3 (by omega) (by omega) (by omega) (by omega)) ?_; refine .x (.b bleq) ?_; refine .sq ?_; refine .cond rfl (fun c30 => ?_) (fun c30 => ?_)
   ·have hp : cel t k c ≤ 0 := by simpa using c30
    refine .exit ?_; refine .pass_exit ?_; refine .block_same ?_; refine .y ?_; refine .x .ad ?_; refine .m ?_; refine .nil ?_; refine .again (k + 1) (by omega) ?_ (by omega); exact .slot rfl (.refl _) <| .slot rfl (.refl _) <| .slot rfl (Le.i (by rw [lv_1 hp])) <| .slot rfl (.refl _) <| .slot rfl (Le.of_eq (by simp)) <| .mem rfl <| .mem rfl <| .nil
   ·have hp : ¬ cel t k c ≤ 0 := by simpa using c30
    refine .skip ?_; refine .z ?_; refine .m ?_; refine .x (OpSem.lenv rfl rfl es22) ?_; refine .x .su ?_; refine .a ?_; refine .sq ?_; refine .seq ?_; refine .seq ?_; refine .region ?_; refine .m ?_; refine .x (.b blss) ?_; refine .sq ?_; refine .cond rfl (fun c35 => ?_) (fun c35 => ?_)
    ·have hp2 : (lvTo t c g.w k) < 0 := by simpa using c35
     refine .seq ?_; refine .region ?_; refine .m ?_; refine .a ?_; refine .sq ?_; refine .exit ?_; refine .pass_exit ?_; refine .block_same ?_; refine .y ?_; refine .x .ad ?_; refine .m ?_; refine .nil ?_; refine .again (k + 1) (by omega) ?_ (by omega); exact .slot rfl (.refl _) <| .slot rfl (.refl _) <| .slot rfl (Le.i (by rw [lv_2 hp hp2])) <| .slot rfl (.refl _) <| .slot rfl (Le.of_eq (by simp)) <| .mem rfl <| .mem rfl <| .nil
    ·have hp2 : ¬ (lvTo t c g.w k) < 0 := by simpa using c35
     have ma := mul_inB (hb.cel (i := (k : Int)) (j := (g.w : Int) - 1)) (hb.cel (i := (lvTo t c g.w k)) (j := c))
     have mb := mul_inB (hb.cel (i := (lvTo t c g.w k)) (j := (g.w : Int) - 1)) (hb.cel (i := (k : Int)) (j := c))
     refine .skip ?_; refine .seq ?_; refine .seq ?_; refine PC.start [] ?_; refine .m ?_; refine .m ?_; refine .x (OpSem.idxv rfl rfl rfl es22 rfl (by omega) (by omega)) ?_; refine .x (OpSem.tbC (h := 0) hk rfl rfl rfl vs3 (by omega) (by omega) (by omega) (by omega)) ?_; refine .m ?_; refine .x (OpSem.nilv rfl rfl) ?_; refine .x (OpSem.fieldv rfl rfl fo99_0) ?_; refine .x (OpSem.tb0 (h := 0) rfl rfl rfl vs37) ?_; refine .m ?_; refine .x (OpSem.idxv rfl rfl rfl es37 rfl (by omega) (by omega)) ?_; refine .x (OpSem.tbR (h := 0) hk rfl rfl rfl vs22 (by omega) (by omega)) ?_; refine .m ?_; refine .x (OpSem.idxv rfl rfl rfl es22 rfl (by omega) (by omega)) ?_; refine .x (OpSem.tbC (h := 0) hk rfl rfl rfl vs3 (by omega) (by omega) (by omega) (by omega)) ?_; refine .x (OpSem.bin rfl rfl rfl (bmul (by omega) (by omega))) ?_; refine .m ?_; refine .x (OpSem.nilv rfl rfl) ?_; refine .x (OpSem.fieldv rfl rfl fo99_0) ?_; refine .x (OpSem.tb0 (h := 0) rfl rfl rfl vs37) ?_; refine .m ?_; refine .x (OpSem.idxv rfl rfl rfl es37 rfl (by omega) (by omega)) ?_; refine .x (OpSem.tbR (h := 0) hk rfl rfl rfl vs22 (by omega) (by omega)) ?_; refine .m ?_; refine .x (OpSem.idxv rfl rfl rfl es22 rfl (by omega) (by omega)) ?_; refine .x (OpSem.tbC (h := 0) hk rfl rfl rfl vs3 (by omega) (by omega) (by omega) (by omega)) ?_; refine .m ?_; refine .m ?_; refine .x (OpSem.idxv rfl rfl rfl es22 rfl (by omega) (by omega)) ?_; refine .x (OpSem.tbC (h := 0) hk rfl rfl rfl vs3 (by omega) (by omega) (by omega) (by omega)) ?_; refine .x (OpSem.bin rfl rfl rfl (bmul (by omega) (by omega))) ?_; refine .x (OpSem.move (.inr rfl) rfl) ?_; refine .d0 mixed ?_; refine .a ?_; refine .sq ?_; refine .seq ?_; refine PC.start [] ?_; refine .m ?_; refine .m ?_; refine .x (.b blss) ?_; refine .m ?_; refine .split (n := 70) rfl (fun c70 => ?_) (fun c70 => ?_)
     ·have hc : lvC t c g.w (lvTo t c g.w k) k := .inl (by simpa using c70)
      refine .hf c70 ?_; refine .hf c70 ?_; refine .hf c70 ?_; refine .hf c70 ?_; refine .gU rfl rfl rfl rfl rfl ?_; refine .gU rfl rfl rfl rfl rfl ?_; refine .gU rfl rfl rfl rfl rfl ?_; refine .gU rfl rfl rfl rfl rfl ?_; refine .gU rfl rfl rfl rfl rfl ?_; refine .gU rfl rfl rfl rfl rfl ?_; refine .gU rfl rfl rfl rfl rfl ?_; refine .gU rfl rfl rfl rfl rfl ?_; refine .gU rfl rfl rfl rfl rfl ?_; refine .gU rfl rfl rfl rfl rfl ?_; refine .gU rfl rfl rfl rfl rfl ?_; refine .gU rfl rfl rfl rfl rfl ?_; refine .gU rfl rfl rfl rfl rfl ?_; refine .gU rfl rfl rfl rfl rfl ?_; refine .d0 mixed ?_; refine .gu ?_; refine .hf c70 ?_; refine .x (OpSem.pickT rfl rfl c70 rfl) ?_; refine .sq ?_; refine .condT rfl rfl ?_; refine .region ?_; refine .m ?_; refine .a ?_; refine .nil ?_; refine .block_normal ?_; refine .y ?_; refine .x .ad ?_; refine .m ?_; refine .nil ?_; refine .again (k + 1) (by omega) ?_ (by omega); exact .slot rfl (.refl _) <| .slot rfl (.refl _) <| .slot rfl (Le.i (by rw [lv_3 hp hp2 hc])) <| .slot rfl (.refl _) <| .slot rfl (Le.of_eq (by simp)) <| .mem rfl <| .mem rfl <| .nil
     ·refine .ht (OpSem.move (.inl rfl) rfl) c70 ?_; refine .ht (OpSem.move (.inl rfl) rfl) c70 ?_; refine .ht (.b beql) c70 ?_; refine .ht (OpSem.move (.inl rfl) rfl) c70 ?_; refine .split (n := 74) rfl (fun c74 => ?_) (fun c74 => ?_)
      ·refine .gt (OpSem.move (.inl rfl) rfl) c74 ?_; refine .gt (OpSem.nilv rfl rfl) c74 ?_; refine .gt (OpSem.fieldv rfl rfl fo99_1) c74 ?_; refine .gt (OpSem.tb1 (h := 0) rfl rfl rfl vs22) c74 ?_; refine .gt (OpSem.move (.inl rfl) rfl) c74 ?_; refine .gt (OpSem.idxv rfl rfl rfl es22 (hk.at (j := k) (by omega) (by omega)) (by omega) (by omega)) c74 ?_; refine .gt (OpSem.tbB (h := 0) hk rfl rfl rfl vs3 (by omega) (by omega)) c74 ?_; refine .gt (OpSem.move (.inl rfl) rfl) c74 ?_; refine .gt (OpSem.nilv rfl rfl) c74 ?_; refine .gt (OpSem.fieldv rfl rfl fo99_1) c74 ?_; refine .gt (OpSem.tb1 (h := 0) rfl rfl rfl vs22) c74 ?_; refine .gt (OpSem.move (.inl rfl) rfl) c74 ?_; refine .gt (OpSem.idxv rfl rfl rfl es22 (hk.at (j := (lvTo t c g.w k)) (by omega) (by omega)) (by omega) (by omega)) c74 ?_; refine .gt (OpSem.tbB (h := 0) hk rfl rfl rfl vs3 (by omega) (by omega)) c74 ?_; refine .d0 mixed ?_; refine .gt c74 ?_; refine .x (.b blss) ?_; refine .ht c70 ?_; refine .x (OpSem.pickT rfl rfl c74 rfl) ?_; refine .x (OpSem.pickF rfl rfl c70 rfl) ?_; refine .sq ?_; refine .cond rfl (fun c91 => ?_) (fun c91 => ?_)
       ·have hc : lvC t c g.w (lvTo t c g.w k) k := .inr ⟨by simpa using c74, by simpa using c91⟩
        refine .region ?_; refine .m ?_; refine .a ?_; refine .nil ?_; refine .block_normal ?_; refine .y ?_; refine .x .ad ?_; refine .m ?_; refine .nil ?_; refine .again (k + 1) (by omega) ?_ (by omega); exact .slot rfl (.refl _) <| .slot rfl (.refl _) <| .slot rfl (Le.i (by rw [lv_3 hp hp2 hc])) <| .slot rfl (.refl _) <| .slot rfl (Le.of_eq (by simp)) <| .mem rfl <| .mem rfl <| .nil
       ·have hc : ¬ lvC t c g.w (lvTo t c g.w k) k := fun h => h.elim (fun h => by simp [h] at c70) (fun h => by simp [h.2] at c91)
        refine .skip ?_; refine .block_normal ?_; refine .y ?_; refine .x .ad ?_; refine .m ?_; refine .nil ?_; refine .again (k + 1) (by omega) ?_ (by omega); exact .slot rfl (.refl _) <| .slot rfl (.refl _) <| .slot rfl (Le.i (by rw [lv_4 hp hp2 hc])) <| .slot rfl (.refl _) <| .slot rfl (Le.of_eq (by simp)) <| .mem rfl <| .mem rfl <| .nil
      ·have hc : ¬ lvC t c g.w (lvTo t c g.w k) k := fun h => h.elim (fun h => by simp [h] at c70) (fun h => by simp [h.1] at c74)
       refine .gf c74 ?_; refine .gf c74 ?_; refine .gf c74 ?_; refine .gf c74 ?_; refine .gf c74 ?_; refine .gf c74 ?_; refine .gf c74 ?_; refine .gf c74 ?_; refine .gf c74 ?_; refine .gf c74 ?_; refine .gf c74 ?_; refine .gf c74 ?_; refine .gf c74 ?_; refine .gf c74 ?_; refine .d0 mixed ?_; refine .gf c74 ?_; refine .ht c70 ?_; refine .x (OpSem.pickF rfl rfl c74 rfl) ?_; refine .x (OpSem.pickF rfl rfl c70 rfl) ?_; refine .sq ?_; refine .condF rfl rfl ?_; refine .skip ?_; refine .block_normal ?_; refine .y ?_; refine .x .ad ?_; refine .m ?_; refine .nil ?_; refine .again (k + 1) (by omega) ?_ (by omega); exact .slot rfl (.refl _) <| .slot rfl (.refl _) <| .slot rfl (Le.i (by rw [lv_4 hp hp2 hc])) <| .slot rfl (.refl _) <| .slot rfl (Le.of_eq (by simp)) <| .mem rfl <| .mem rfl <| .nil
  ·have hkl2 : k = t.bs.length := by simp at c17; omega
   subst hkl2
   refine .exit ?_; refine .pass_exit ?_; refine .pass_exit ?_; refine .block_same ?_; refine .z ?_; refine .m ?_; refine .a ?_; refine .sq ?_; refine .ret ?_; exact .retP (.inl rfl) rfl (.tmp rfl <| .nil) rfl rfl (rfl) (fun H => rfl)

theorem linear_tableau_maximize_P (g : Ids) (t : Tb) (hk : TabOk g t) (h2 : t.bs.length ≤ t.rs.length) (k : Nat) (t2 : Tb) (x : Int) (ob : Int) (n : Nat) (o0 : 0 ≤ ob) (o1 : ob < t.rs.length) (hn : n ≤ g.w) (hm : MaxN g.w ob n k t t2 x) : DoesP Try.prog 58 [ptr g.s 0, .int .i64 ob, .int .i64 (n : Int)] (.int .i64 x) (tabF g t) (tabF g t2) := by
 have hrm := hk.rm
 have hwm := hk.wm
 have hbm := hk.bm
 refine DoesP.of_body Try.func58 rfl rfl (by simp) Try.call58 (fun b => tab_dom b) (fun O0 Oc W => ?_); refine .seq ?_; refine .region ?_; refine .a ?_; refine .sq ?_; refine .block ?_; refine .loop (X := (Nat × Tb)) (fun q => TabOk g q.2 ∧ q.2.bs.length = t.bs.length ∧ q.2.rs.length = t.rs.length ∧ Bnd q.2 ∧ MaxN g.w ob n q.1 q.2 t2 x) (fun q => [(0, .d (.v (ptr g.s 0))), (1, I (ob)), (2, I ((n : Int)))]) (fun q => [(0, tabM g q.2), (1000, .fr (frK Oc W))]) (fun q => q.1) (k, t) ⟨hk, rfl, rfl, hm.inv.1, hm⟩ ?_ ?_
 ·exact .all
 ·rintro q ⟨hq1, hq2, hq3, hqb, hq5⟩
  refine .block ?_; refine .seq ?_; refine .region ?_; refine .a ?_; refine .sq ?_; refine .seq ?_; refine .block ?_; refine .loop (X := Nat) (fun d => d ≤ n ∧ ∀ j : Nat, j < d → 0 ≤ cel q.2 ob j) (fun d => [(0, .d (.v (ptr g.s 0))), (1, I (ob)), (2, I ((n : Int))), (7, I (d))]) (fun d => [(0, tabM g q.2), (1000, .fr (frK Oc W))]) (fun d => n - d) 0 ⟨by omega, by simp⟩ ?_ ?_
  ·exact .slot rfl (.refl _) <| .slot rfl (.refl _) <| .slot rfl (.refl _) <| .slot rfl (Le.of_eq (by simp)) <| .mem rfl <| .mem rfl <| .nil
  ·rintro d ⟨hdl, hal⟩
   refine .seq ?_; refine .seq ?_; refine .region ?_; refine .m ?_; refine .m ?_; refine .x (.b blss) ?_; refine .m ?_; refine .split (n := 12) rfl (fun c12 => ?_) (fun c12 => ?_)
   ·have hd : d < n := by simp at c12; omega
    refine .gt c12 ?_; refine .m ?_; refine .gt c12 ?_; refine .x (OpSem.nilv rfl rfl) ?_; refine .gt c12 ?_; refine .x (OpSem.fieldv rfl rfl fo99_0) ?_; refine .gt c12 ?_; refine .x (OpSem.tb0 (h := 0) rfl rfl rfl vs37) ?_; refine .gt c12 ?_; refine .m ?_; refine .gt c12 ?_; refine .x (OpSem.idxv rfl rfl rfl es37 rfl (by omega) (by omega)) ?_; refine .gt c12 ?_; refine .x (OpSem.tbR (h := 0) hq1 rfl rfl rfl vs22 (by omega) (by omega)) ?_; refine .gt c12 ?_; refine .m ?_; refine .gt c12 ?_; refine .x (OpSem.idxv rfl rfl rfl es22 rfl (by omega) (by omega)) ?_; refine .gt c12 ?_; refine .x (OpSem.tbC (h := 0) hq1 rfl rfl rfl vs3 (by omega) (by omega) (by omega) (by omega)) ?_; refine .gt c12 ?_; refine .x (.b bgeq) ?_; refine .x (OpSem.pickT rfl rfl c12 rfl) ?_; refine .sq ?_; refine .cond rfl (fun c24 => ?_) (fun c24 => ?_)
    ·have hge : 0 ≤ cel q.2 ob d := by simpa using c24
     refine .skip ?_; refine .seq ?_; refine .block ?_; refine .region ?_; refine .m ?_; refine .x .ad ?_; refine .a ?_; refine .nil ?_; refine .block_normal ?_; refine .again (d + 1) ⟨by omega, all_succ hal hge⟩ ?_ (by omega); exact .slot rfl (.refl _) <| .slot rfl (.refl _) <| .slot rfl (.refl _) <| .slot rfl (Le.of_eq (by simp)) <| .mem rfl <| .mem rfl <| .nil
    ·have hlt : cel q.2 ob d < 0 := by simp at c24; omega
     have hor : d = n ∨ (d < n ∧ cel q.2 ob d < 0) := .inr ⟨hd, hlt⟩
     refine .exit ?_; refine .pass_exit ?_; refine .pass_exit ?_; refine .block_same ?_; refine .seq ?_; refine .seq ?_; refine .seq ?_; refine .region ?_; refine .m ?_; refine .m ?_; refine .x (.b beql) ?_; refine .sq ?_; refine .cond rfl (fun c29 => ?_) (fun c29 => ?_)
     ·have hd2 : d = n := by simp at c29; omega
      obtain ⟨e1, e2⟩ := hq5.all (by rw [← hd2]; exact hal)
      refine .seq ?_; refine .region ?_; refine .a ?_; refine .sq ?_; refine .ret ?_; refine .pass_ret ?_; refine .block_ret ?_; refine .pass_ret ?_; refine .block_ret ?_; exact .retP (.inl rfl) rfl (.tmp rfl <| .nil) rfl rfl (by rw [e1]) (fun H => by rw [e2]; rfl)
     ·have hd2 : d ≠ n := by simp at c29; omega
      have hE : Ent q.2 ob n d := ⟨(hor.resolve_left hd2).1, hal, (hor.resolve_left hd2).2⟩
      have hdn := hE.lt
      have hll := lvF_in (t := q.2) (c := (d : Int)) (w := g.w)
      refine .skip ?_; refine .z ?_; refine .m ?_; refine .m ?_; refine .ofSt (OpSt.callP (h := 0) (linear_tableau_leaving_P g q.2 hq1 hqb (d : Int) (by omega) (by omega) (by omega)) rfl rfl rfl (fun H => rfl)) rfl rfl rfl (by decide) ?_; refine .a ?_; refine .sq ?_; refine .seq ?_; refine .seq ?_; refine .region ?_; refine .m ?_; refine .x (.b blss) ?_; refine .sq ?_; refine .cond rfl (fun c34 => ?_) (fun c34 => ?_)
      ·obtain ⟨e1, e2⟩ := hq5.ent hE (by simpa using c34)
       refine .seq ?_; refine .region ?_; refine .m ?_; refine .a ?_; refine .sq ?_; refine .ret ?_; refine .pass_ret ?_; refine .block_ret ?_; refine .pass_ret ?_; refine .block_ret ?_; exact .retP (.inl rfl) rfl (.tmp rfl <| .nil) rfl rfl (by rw [e1]) (fun H => by rw [e2]; rfl)
      ·have hl : ¬ (lvF q.2 (d : Int) g.w) < 0 := by simpa using c34
       obtain ⟨k', e1, e2⟩ := hq5.next hE hl
       refine .skip ?_; refine .y ?_; refine .m ?_; refine .m ?_; refine .m ?_; refine .ofSt (OpSt.callP (h := 0) (linear_tableau_pivot_P g q.2 hq1 hqb (lvF q.2 (d : Int) g.w) (d : Int) (by omega) (by omega) (by omega) (by omega) (by omega)) rfl rfl rfl (fun H => rfl)) rfl rfl rfl (by decide) ?_; refine .nil ?_; refine .block_normal ?_; refine .again (k', pivF q.2 (lvF q.2 (d : Int) g.w) d) ⟨pivF_ok hq1, pivF_bl.trans hq2, pivF_rl.trans hq3, e2.inv.1, e2⟩ ?_ (by simp only []; omega)
       exact .all
   ·have hd : d = n := by simp at c12; omega
    have hor : d = n ∨ (d < n ∧ cel q.2 ob d < 0) := .inl hd
    refine .gf c12 ?_; refine .gf c12 ?_; refine .gf c12 ?_; refine .gf c12 ?_; refine .gf c12 ?_; refine .gf c12 ?_; refine .gf c12 ?_; refine .gf c12 ?_; refine .gf c12 ?_; refine .gf c12 ?_; refine .gf c12 ?_; refine .x (OpSem.pickF rfl rfl c12 rfl) ?_; refine .sq ?_; refine .condF rfl rfl ?_; refine .exit ?_; refine .pass_exit ?_; refine .pass_exit ?_; refine .block_same ?_; refine .seq ?_; refine .seq ?_; refine .seq ?_; refine .region ?_; refine .m ?_; refine .m ?_; refine .x (.b beql) ?_; refine .sq ?_; refine .cond rfl (fun c29 => ?_) (fun c29 => ?_)
    ·have hd2 : d = n := by simp at c29; omega
     obtain ⟨e1, e2⟩ := hq5.all (by rw [← hd2]; exact hal)
     refine .seq ?_; refine .region ?_; refine .a ?_; refine .sq ?_; refine .ret ?_; refine .pass_ret ?_; refine .block_ret ?_; refine .pass_ret ?_; refine .block_ret ?_; exact .retP (.inl rfl) rfl (.tmp rfl <| .nil) rfl rfl (by rw [e1]) (fun H => by rw [e2]; rfl)
    ·have hd2 : d ≠ n := by simp at c29; omega
     have hE : Ent q.2 ob n d := ⟨(hor.resolve_left hd2).1, hal, (hor.resolve_left hd2).2⟩
     have hdn := hE.lt
     have hll := lvF_in (t := q.2) (c := (d : Int)) (w := g.w)
     refine .skip ?_; refine .z ?_; refine .m ?_; refine .m ?_; refine .ofSt (OpSt.callP (h := 0) (linear_tableau_leaving_P g q.2 hq1 hqb (d : Int) (by omega) (by omega) (by omega)) rfl rfl rfl (fun H => rfl)) rfl rfl rfl (by decide) ?_; refine .a ?_; refine .sq ?_; refine .seq ?_; refine .seq ?_; refine .region ?_; refine .m ?_; refine .x (.b blss) ?_; refine .sq ?_; refine .cond rfl (fun c34 => ?_) (fun c34 => ?_)
     ·obtain ⟨e1, e2⟩ := hq5.ent hE (by simpa using c34)
      refine .seq ?_; refine .region ?_; refine .m ?_; refine .a ?_; refine .sq ?_; refine .ret ?_; refine .pass_ret ?_; refine .block_ret ?_; refine .pass_ret ?_; refine .block_ret ?_; exact .retP (.inl rfl) rfl (.tmp rfl <| .nil) rfl rfl (by rw [e1]) (fun H => by rw [e2]; rfl)
     ·have hl : ¬ (lvF q.2 (d : Int) g.w) < 0 := by simpa using c34
      obtain ⟨k', e1, e2⟩ := hq5.next hE hl
      refine .skip ?_; refine .y ?_; refine .m ?_; refine .m ?_; refine .m ?_; refine .ofSt (OpSt.callP (h := 0) (linear_tableau_pivot_P g q.2 hq1 hqb (lvF q.2 (d : Int) g.w) (d : Int) (by omega) (by omega) (by omega) (by omega) (by omega)) rfl rfl rfl (fun H => rfl)) rfl rfl rfl (by decide) ?_; refine .nil ?_; refine .block_normal ?_; refine .again (k', pivF q.2 (lvF q.2 (d : Int) g.w) d) ⟨pivF_ok hq1, pivF_bl.trans hq2, pivF_rl.trans hq3, e2.inv.1, e2⟩ ?_ (by simp only []; omega)
      exact .all

theorem linear_tableau_start_P (g : Ids) (t : Tb) (hk : TabOk g t) (h2 : t.rs.length = t.bs.length + 2) (hw2 : 2 ≤ g.w) (b : Bool) (t3 : Tb) (hs : StartN g.w t t3 b) : DoesP Try.prog 56 [ptr g.s 0] (.bool b) (tabF g t) (tabF g t3) := by
 have hrm := hk.rm
 have hwm := hk.wm
 have hbm := hk.bm
 refine DoesP.of_body Try.func56 rfl rfl (by simp) Try.call56 (fun b => tab_dom b) (fun O0 Oc W => ?_); refine .seq ?_; refine .region ?_; refine .a ?_; refine .z ?_; refine .m ?_; refine .x (OpSem.nilv rfl rfl) ?_; refine .x (OpSem.fieldv rfl rfl fo99_1) ?_; refine .x (OpSem.tb1 (h := 0) rfl rfl rfl vs22) ?_; refine .x (OpSem.lenv rfl rfl es22) ?_; refine .a ?_; refine .z ?_; refine .m ?_; refine .x (OpSem.nilv rfl rfl) ?_; refine .x (OpSem.fieldv rfl rfl fo99_0) ?_; refine .x (OpSem.tb0 (h := 0) rfl rfl rfl vs37) ?_; refine .m ?_; refine .x (OpSem.idxv rfl rfl rfl es37 rfl (by omega) (by omega)) ?_; refine .x (OpSem.tbR (h := 0) hk rfl rfl rfl vs22 (by omega) (by omega)) ?_; refine .x (OpSem.lenv rfl rfl es22) ?_; refine .x .su ?_; refine .a ?_; refine .z ?_; refine .a ?_; refine .sq ?_; refine .seq ?_; refine .seq ?_; refine .region ?_; refine .m ?_; refine .x (OpSem.nilv rfl rfl) ?_; refine .x (OpSem.fieldv rfl rfl fo99_1) ?_; refine .x (OpSem.tb1 (h := 0) rfl rfl rfl vs22) ?_; refine .x (OpSem.lenv rfl rfl es22) ?_; refine .m ?_; refine .sq ?_; refine .block ?_; refine .loop (X := Nat) (fun k => k ≤ t.bs.length) (fun k => [(0, .d (.v (ptr g.s 0))), (3, I (t.bs.length)), (4, I (g.w - 1)), (5, I ((loTo t g.w k))), (28, I (t.bs.length)), (29, I (k))]) (fun k => [(0, tabM g t), (1000, .fr (frK Oc W))]) (fun k => t.bs.length - k) 0 (by omega) ?_ ?_
 ·exact .slot rfl (.refl _) <| .slot rfl (.refl _) <| .slot rfl (.refl _) <| .slot rfl (Le.of_eq rfl) <| .slot rfl (.refl _) <| .slot rfl (Le.of_eq (by simp)) <| .mem rfl <| .mem rfl <| .nil
 ·rintro k hkl
  refine .seq ?_; refine .region ?_; refine .x (.b blss) ?_; refine .sq ?_; refine .seq ?_; refine .cond rfl (fun c30 => ?_) (fun c30 => ?_)
  ·have hkl2 : k < t.bs.length := by simp at c30; omega
   have hbi := lo_in (t := t) (w := g.w) (k := k)
   refine .skip ?_; refine .seq ?_; refine .seq ?_; refine .block ?_; refine .seq ?_; refine .region ?_; refine .m ?_; refine .a ?_; refine .sq ?_; refine .seq ?_; refine PC.start [] ?_; refine .m ?_; refine .x (OpSem.nilv rfl rfl) ?_; refine .x (OpSem.fieldv rfl rfl fo99_0) ?_; refine .x (OpSem.tb0 (h := 0) rfl rfl rfl vs37) ?_; refine .m ?_; refine .x (OpSem.idxv rfl rfl rfl es37 rfl (by omega) (by omega)) ?_; refine .x (OpSem.tbR (h := 0) hk rfl rfl rfl vs22 (by omega) (by omega)) ?_; refine .m ?_; refine .x (OpSem.idxv rfl rfl rfl es22 rfl (by omega) (by omega)) ?_; refine .x (OpSem.tbC (h := 0) hk rfl rfl rfl vs3 (by omega) (by omega) (by omega) (by omega)) ?_; refine .x (.b blss) ?_; refine .m ?_; refine .split (n := 43) rfl (fun c43 => ?_) (fun c43 => ?_)
   ·refine .gt (OpSem.move (.inl rfl) rfl) c43 ?_; refine .gt (.b blss) c43 ?_; refine .gt (OpSem.move (.inl rfl) rfl) c43 ?_; refine .split (n := 46) rfl (fun c46 => ?_) (fun c46 => ?_)
    ·have hc : loC t g.w (loTo t g.w k) k := ⟨by simpa using c43, .inl (by simpa using c46)⟩
     refine .hf c46 ?_; refine .hf c46 ?_; refine .hf c46 ?_; refine .hf c46 ?_; refine .hf c46 ?_; refine .hf c46 ?_; refine .hf c46 ?_; refine .hf c46 ?_; refine .hf c46 ?_; refine .hf c46 ?_; refine .hf c46 ?_; refine .hf c46 ?_; refine .hf c46 ?_; refine .hf c46 ?_; refine .hf c46 ?_; refine .hf c46 ?_; refine .hf c46 ?_; refine .hf c46 ?_; refine .hf c46 ?_; refine .hf c46 ?_; refine .hf c46 ?_; refine .gt (OpSem.pickT rfl rfl c46 rfl) c43 ?_; refine .x (OpSem.pickT rfl rfl c43 rfl) ?_; refine .d0 mixed ?_; refine .sq ?_; refine .condT rfl rfl ?_; refine .region ?_; refine .m ?_; refine .a ?_; refine .nil ?_; refine .block_normal ?_; refine .y ?_; refine .x .ad ?_; refine .m ?_; refine .nil ?_; refine .again (k + 1) (by omega) ?_ (by omega); exact .slot rfl (.refl _) <| .slot rfl (.refl _) <| .slot rfl (.refl _) <| .slot rfl (Le.i (by rw [lo_t hc])) <| .slot rfl (.refl _) <| .slot rfl (Le.of_eq (by simp)) <| .mem rfl <| .mem rfl <| .nil
    ·have hbp : 0 ≤ (loTo t g.w k) := by simpa using c46
     refine .ht (OpSem.move (.inl rfl) rfl) c46 ?_; refine .ht (OpSem.nilv rfl rfl) c46 ?_; refine .ht (OpSem.fieldv rfl rfl fo99_0) c46 ?_; refine .ht (OpSem.tb0 (h := 0) rfl rfl rfl vs37) c46 ?_; refine .ht (OpSem.move (.inl rfl) rfl) c46 ?_; refine .ht (OpSem.idxv rfl rfl rfl es37 rfl (by omega) (by omega)) c46 ?_; refine .ht (OpSem.tbR (h := 0) hk rfl rfl rfl vs22 (by omega) (by omega)) c46 ?_; refine .ht (OpSem.move (.inl rfl) rfl) c46 ?_; refine .ht (OpSem.idxv rfl rfl rfl es22 rfl (by omega) (by omega)) c46 ?_; refine .ht (OpSem.tbC (h := 0) hk rfl rfl rfl vs3 (by omega) (by omega) (by omega) (by omega)) c46 ?_; refine .ht (OpSem.move (.inl rfl) rfl) c46 ?_; refine .ht (OpSem.nilv rfl rfl) c46 ?_; refine .ht (OpSem.fieldv rfl rfl fo99_0) c46 ?_; refine .ht (OpSem.tb0 (h := 0) rfl rfl rfl vs37) c46 ?_; refine .ht (OpSem.move (.inl rfl) rfl) c46 ?_; refine .ht (OpSem.idxv rfl rfl rfl es37 rfl (by omega) (by omega)) c46 ?_; refine .ht (OpSem.tbR (h := 0) hk rfl rfl rfl vs22 (by omega) (by omega)) c46 ?_; refine .ht (OpSem.move (.inl rfl) rfl) c46 ?_; refine .ht (OpSem.idxv rfl rfl rfl es22 rfl (by omega) (by omega)) c46 ?_; refine .ht (OpSem.tbC (h := 0) hk rfl rfl rfl vs3 (by omega) (by omega) (by omega) (by omega)) c46 ?_; refine .ht (.b blss) c46 ?_; refine .gt (OpSem.pickF rfl rfl c46 rfl) c43 ?_; refine .x (OpSem.pickT rfl rfl c43 rfl) ?_; refine .d0 mixed ?_; refine .sq ?_; refine .cond rfl (fun c69 => ?_) (fun c69 => ?_)
     ·have hc : loC t g.w (loTo t g.w k) k := ⟨by simpa using c43, .inr (by simpa using c69)⟩
      refine .region ?_; refine .m ?_; refine .a ?_; refine .nil ?_; refine .block_normal ?_; refine .y ?_; refine .x .ad ?_; refine .m ?_; refine .nil ?_; refine .again (k + 1) (by omega) ?_ (by omega); exact .slot rfl (.refl _) <| .slot rfl (.refl _) <| .slot rfl (.refl _) <| .slot rfl (Le.i (by rw [lo_t hc])) <| .slot rfl (.refl _) <| .slot rfl (Le.of_eq (by simp)) <| .mem rfl <| .mem rfl <| .nil
     ·have hc : ¬ loC t g.w (loTo t g.w k) k := fun h => h.2.elim (fun h => by simp [h] at c46) (fun h => by simp [h] at c69)
      refine .skip ?_; refine .block_normal ?_; refine .y ?_; refine .x .ad ?_; refine .m ?_; refine .nil ?_; refine .again (k + 1) (by omega) ?_ (by omega); exact .slot rfl (.refl _) <| .slot rfl (.refl _) <| .slot rfl (.refl _) <| .slot rfl (Le.i (by rw [lo_f hc])) <| .slot rfl (.refl _) <| .slot rfl (Le.of_eq (by simp)) <| .mem rfl <| .mem rfl <| .nil
   ·have hc : ¬ loC t g.w (loTo t g.w k) k := fun h => by simp [h.1] at c43
    refine .gf c43 ?_; refine .gf c43 ?_; refine .gf c43 ?_; refine .gU rfl rfl rfl rfl rfl ?_; refine .gU rfl rfl rfl rfl rfl ?_; refine .gU rfl rfl rfl rfl rfl ?_; refine .gU rfl rfl rfl rfl rfl ?_; refine .gU rfl rfl rfl rfl rfl ?_; refine .gU rfl rfl rfl rfl rfl ?_; refine .gU rfl rfl rfl rfl rfl ?_; refine .gU rfl rfl rfl rfl rfl ?_; refine .gU rfl rfl rfl rfl rfl ?_; refine .gU rfl rfl rfl rfl rfl ?_; refine .gU rfl rfl rfl rfl rfl ?_; refine .gU rfl rfl rfl rfl rfl ?_; refine .gU rfl rfl rfl rfl rfl ?_; refine .gU rfl rfl rfl rfl rfl ?_; refine .gU rfl rfl rfl rfl rfl ?_; refine .gU rfl rfl rfl rfl rfl ?_; refine .gU rfl rfl rfl rfl rfl ?_; refine .gU rfl rfl rfl rfl rfl ?_; refine .gU rfl rfl rfl rfl rfl ?_; refine .gU rfl rfl rfl rfl rfl ?_; refine .gU rfl rfl rfl rfl rfl ?_; refine .gf c43 ?_; refine .x (OpSem.pickF rfl rfl c43 rfl) ?_; refine .d0 mixed ?_; refine .sq ?_; refine .condF rfl rfl ?_; refine .skip ?_; refine .block_normal ?_; refine .y ?_; refine .x .ad ?_; refine .m ?_; refine .nil ?_; refine .again (k + 1) (by omega) ?_ (by omega); exact .slot rfl (.refl _) <| .slot rfl (.refl _) <| .slot rfl (.refl _) <| .slot rfl (Le.i (by rw [lo_f hc])) <| .slot rfl (.refl _) <| .slot rfl (Le.of_eq (by simp)) <| .mem rfl <| .mem rfl <| .nil
  ·have hkl2 : k = t.bs.length := by simp at c30; omega
   subst hkl2
   have hbi := loF_in (t := t) (w := g.w)
   refine .exit ?_; refine .pass_exit ?_; refine .pass_exit ?_; refine .block_same ?_; refine .seq ?_; refine .seq ?_; refine .seq ?_; refine .region ?_; refine .m ?_; refine .x (.b blss) ?_; refine .sq ?_; refine .cond rfl (fun c73 => ?_) (fun c73 => ?_)
   ·have hl : loF t g.w < 0 := of_decide_eq_true c73
    obtain ⟨e1, e2⟩ := hs.pos2 hl
    refine .seq ?_; refine .region ?_; refine .a ?_; refine .sq ?_; refine .ret ?_; refine .pass_ret ?_; exact .retP (.inl rfl) rfl (.tmp rfl <| .nil) rfl rfl (by rw [e1]) (fun H => by rw [e2]; rfl)
   ·have hl : ¬ loF t g.w < 0 := of_decide_eq_false c73
    obtain ⟨hb, k, t2, x, hm, hrest⟩ := hs.neg2 hl
    obtain ⟨z1, z2, z3, z4⟩ := hm.ok (pivF_ok hk)
    rw [pivF_bl] at z2
    rw [pivF_rl] at z3
    refine .skip ?_; refine .z ?_; refine .m ?_; refine .m ?_; refine .m ?_; refine .x (OpSem.le (s' := I ((g.w : Int) - 2)) .su (Le.i (by omega))) ?_; refine .ofSt (OpSt.callP (h := 0) (linear_tableau_pivot_P g t hk hb (loF t g.w) ((g.w : Int) - 2) (by omega) (by omega) (by omega) (by omega) (by omega)) rfl rfl rfl (fun H => rfl)) rfl rfl rfl (by decide) ?_; refine .z ?_; refine .m ?_; refine .m ?_; refine .x .ad ?_; refine .x (OpSem.le (s' := I ((g.w - 1 : Nat) : Int)) (OpSem.move (.inl rfl) rfl) (Le.i (by omega))) ?_; refine .ofSt (OpSt.callP (h := 0) (linear_tableau_maximize_P g _ (pivF_ok hk) (by rw [pivF_bl, pivF_rl]; omega) k t2 x ((t.bs.length : Int) + 1) (g.w - 1) (by omega) (by rw [pivF_rl]; omega) (by omega) hm) rfl rfl rfl (fun H => rfl)) rfl rfl rfl (by decide) ?_; refine .sq ?_; refine .seq ?_; refine .seq ?_; refine .region ?_; refine .m ?_; refine .x (OpSem.nilv rfl rfl) ?_; refine .x (OpSem.fieldv rfl rfl fo99_0) ?_; refine .x (OpSem.tb0 (h := 0) rfl rfl rfl vs37) ?_; refine .m ?_; refine .x .ad ?_; refine .x (OpSem.idxv rfl rfl rfl es37 rfl (by omega) (by omega)) ?_; refine .x (OpSem.tbR (h := 0) z1 rfl rfl rfl vs22 (by omega) (by omega)) ?_; refine .m ?_; refine .x (OpSem.idxv rfl rfl rfl es22 rfl (by omega) (by omega)) ?_; refine .x (OpSem.tbC (h := 0) z1 rfl rfl rfl vs3 (by omega) (by omega) (by omega) (by omega)) ?_; refine .x (.b blss) ?_; refine .sq ?_; refine .cond rfl (fun c95 => ?_) (fun c95 => ?_)
    ·obtain ⟨e1, e2⟩ := hrest.1 (by simpa using c95)
     refine .seq ?_; refine .region ?_; refine .a ?_; refine .sq ?_; refine .ret ?_; refine .pass_ret ?_; exact .retP (.inl rfl) rfl (.tmp rfl <| .nil) rfl rfl (by rw [e1]) (fun H => by rw [e2]; rfl)
    ·obtain ⟨e1, hd⟩ := hrest.2 (by simpa using c95)
     refine .skip ?_; refine .seq ?_; refine .seq ?_; refine .seq ?_; refine .region ?_; refine .m ?_; refine .x (OpSem.nilv rfl rfl) ?_; refine .x (OpSem.fieldv rfl rfl fo99_1) ?_; refine .x (OpSem.tb1 (h := 0) rfl rfl rfl vs22) ?_; refine .x (OpSem.lenv rfl rfl es22) ?_; refine .m ?_; refine .sq ?_; refine .block ?_; refine .loop (X := (Nat × Tb)) (fun q => TabOk g q.2 ∧ q.2.bs.length = t.bs.length ∧ q.2.rs.length = t.rs.length ∧ DrvN g.w q.1 q.2 t3) (fun q => [(0, .d (.v (ptr g.s 0))), (4, I (g.w - 1)), (99, .d (.v (.slice g.ba t2.bs.length g.bc))), (100, I (t2.bs.length)), (101, I (q.1))]) (fun q => [(0, tabM g q.2), (1000, .fr (frK Oc W))]) (fun q => t.bs.length - q.1) (0, t2) ⟨z1, z2, z3, hd⟩ ?_ ?_
     ·exact .slot rfl (.refl _) <| .slot rfl (.refl _) <| .slot rfl (.refl _) <| .slot rfl (.refl _) <| .slot rfl (Le.of_eq (by simp)) <| .mem rfl <| .mem rfl <| .nil
     ·rintro q ⟨hq1, hq2, hq3, hqd⟩
      refine .seq ?_; refine .region ?_; refine .x (.b blss) ?_; refine .sq ?_; refine .seq ?_; refine .cond rfl (fun c102 => ?_) (fun c102 => ?_)
      ·have hr : q.1 < q.2.bs.length := by simp at c102; omega
       refine .skip ?_; refine .seq ?_; refine .seq ?_; refine .block ?_; refine .seq ?_; refine .region ?_; refine .m ?_; refine .x (OpSem.idxv rfl rfl rfl es22 (hq1.at (j := q.1) (by omega) (by omega)) (by omega) (by omega)) ?_; refine .x (OpSem.tbB (h := 0) hq1 rfl rfl rfl vs3 (by omega) (by omega)) ?_; refine .a ?_; refine .a ?_; refine .sq ?_; refine .seq ?_; refine .seq ?_; refine .region ?_; refine .m ?_; refine .m ?_; refine .x .su ?_; refine .x (.b bneq) ?_; refine .sq ?_; refine .cond rfl (fun c109 => ?_) (fun c109 => ?_)
       ·have hne : nth q.2.bs q.1 ≠ (g.w : Int) - 2 := by simp at c109; omega
        have hnx := hqd.next hr hne
        refine .exit ?_; refine .pass_exit ?_; refine .block_same ?_; refine .y ?_; refine .x .ad ?_; refine .m ?_; refine .nil ?_; refine .again (q.1 + 1, q.2) ⟨hq1, hq2, hq3, hnx⟩ ?_ (by simp only []; omega)
        exact .slot rfl (.refl _) <| .slot rfl (.refl _) <| .slot rfl (.refl _) <| .slot rfl (.refl _) <| .slot rfl (Le.of_eq (by simp)) <| .mem rfl <| .mem rfl <| .nil
       ·have hne : nth q.2.bs q.1 = (g.w : Int) - 2 := by simp at c109; omega
        obtain ⟨hqb, c0, hnz, hnx⟩ := hqd.go hr hne
        have hnzl := hnz.lt
        refine .skip ?_; refine .z ?_; refine .a ?_; refine .sq ?_; refine .seq ?_; refine .block ?_; refine .loop (X := Nat) (fun c => c ≤ c0) (fun c => [(0, .d (.v (ptr g.s 0))), (4, I (g.w - 1)), (7, I (q.1)), (9, I (c)), (99, .d (.v (.slice g.ba t2.bs.length g.bc))), (100, I (t2.bs.length)), (101, I (q.1))]) (fun c => [(0, tabM g q.2), (1000, .fr (frK Oc W))]) (fun c => c0 - c) 0 (by omega) ?_ ?_
        ·exact .slot rfl (.refl _) <| .slot rfl (.refl _) <| .slot rfl (.refl _) <| .slot rfl (Le.of_eq (by simp)) <| .slot rfl (.refl _) <| .slot rfl (.refl _) <| .slot rfl (.refl _) <| .mem rfl <| .mem rfl <| .nil
        ·rintro c hcl
         refine .seq ?_; refine .seq ?_; refine .region ?_; refine .m ?_; refine .x (OpSem.nilv rfl rfl) ?_; refine .x (OpSem.fieldv rfl rfl fo99_0) ?_; refine .x (OpSem.tb0 (h := 0) rfl rfl rfl vs37) ?_; refine .m ?_; refine .x (OpSem.idxv rfl rfl rfl es37 rfl (by omega) (by omega)) ?_; refine .x (OpSem.tbR (h := 0) hq1 rfl rfl rfl vs22 (by omega) (by omega)) ?_; refine .m ?_; refine .x (OpSem.idxv rfl rfl rfl es22 rfl (by omega) (by omega)) ?_; refine .x (OpSem.tbC (h := 0) hq1 rfl rfl rfl vs3 (by omega) (by omega) (by omega) (by omega)) ?_; refine .x (.b beql) ?_; refine .sq ?_; refine .cond rfl (fun c120 => ?_) (fun c120 => ?_)
         ·have hz : cel q.2 q.1 c = 0 := by simpa using c120
          have hcl2 : c < c0 := (Nat.lt_or_ge c c0).elim id (fun h => absurd (by rw [← (by omega : c = c0)]; exact hz) hnz.hit)
          refine .skip ?_; refine .seq ?_; refine .block ?_; refine .region ?_; refine .m ?_; refine .x .ad ?_; refine .a ?_; refine .nil ?_; refine .block_normal ?_; refine .again (c + 1) (by omega) ?_ (by omega); exact .slot rfl (.refl _) <| .slot rfl (.refl _) <| .slot rfl (.refl _) <| .slot rfl (Le.of_eq (by simp)) <| .slot rfl (.refl _) <| .slot rfl (.refl _) <| .slot rfl (.refl _) <| .mem rfl <| .mem rfl <| .nil
         ·have hcc : c = c0 := (Nat.lt_or_ge c c0).elim (fun h => absurd (hnz.all c h) (of_decide_eq_false c120)) (fun h => by omega)
          subst hcc
          refine .exit ?_; refine .pass_exit ?_; refine .pass_exit ?_; refine .block_same ?_; refine .y ?_; refine .m ?_; refine .m ?_; refine .m ?_; refine .ofSt (OpSt.callP (h := 0) (linear_tableau_pivot_P g q.2 hq1 hqb (q.1 : Int) (c : Int) (by omega) (by omega) (by omega) (by omega) (by omega)) rfl rfl rfl (fun H => rfl)) rfl rfl rfl (by decide) ?_; refine .nil ?_; refine .block_normal ?_; refine .y ?_; refine .x .ad ?_; refine .m ?_; refine .nil ?_; refine .again (q.1 + 1, pivF q.2 q.1 c) ⟨pivF_ok hq1, pivF_bl.trans hq2, pivF_rl.trans hq3, hnx⟩ ?_ (by simp only []; omega)
          exact .slot rfl (.refl _) <| .slot rfl (.refl _) <| .slot rfl (.refl _) <| .slot rfl (.refl _) <| .slot rfl (Le.of_eq (by simp)) <| .mem rfl <| .mem rfl <| .nil
      ·have hr : q.1 = q.2.bs.length := by have := hqd.le; simp at c102; omega
       have e2 := hqd.end hr
       refine .exit ?_; refine .pass_exit ?_; refine .pass_exit ?_; refine .block_same ?_; refine .z ?_; refine .a ?_; refine .sq ?_; refine .ret ?_; exact .retP (.inl rfl) rfl (.tmp rfl <| .nil) rfl rfl (by rw [e2]) (fun H => by rw [e1]; rfl)

end Go.Proofs.Ytlidcpmdgceboaa
end

section
/- The engine, part 43: memory whose cells are known, made out of slices and variables, handed over, given up. -/


set_option linter.unusedSimpArgs false
set_option linter.unnecessarySimpa false
set_option linter.unusedVariables false
namespace Go.Eng
open Go.RowKit (Below)
section
variable {P : Program} {N : Nat} {w0 : World} {O0 : Nat → Nat} {ops : Array Oper} {Q : Post} {e : Env} {M : Mem} {rest : List Oper} {o : Oper} {s : S} {B : Nat} {c : Code}

theorem Tr.pin0 (h : Nat) (hc : Tr P N w0 O0 e ((h, .any (pinK noF)) :: M) c Q) : Tr P N w0 O0 e M c Q := fun O H a w hst => hc O H a w (hst.memSet (fun b T l hF => by cases hF))
theorem Tr.pinEq {h : Nat} {F F' : PF} (hM : look M h = some (.any (pinK F))) (he : F = F') (hn : Tr P N w0 O0 e ((h, .any (pinK F')) :: M) c Q) : Tr P N w0 O0 e M c Q := by
  subst he
  exact fun O H a w hst => hn O H a w (hst.memSet (hst.mem _ _ hM))

/-- Another label for what one handle owns. -/
theorem MHold.relab {O O' : Nat → Nat} {H : Nat → Value} {B : Nat} {w : World} {n : Nat} {m : Mo} (hk : Keeps O w O' w) (ho : ∀ b, O b = n + 1 → O' b = n + 1) (hm : MHold O H B w n m) : MHold O' H B w n m := by
  cases m with
  | gone => trivial
  | fr K => exact K.mono _ _ _ _ _ hk hm
  | any K => exact K.mono _ _ _ _ _ _ _ (fun b hb' hO => ⟨hO.elim (fun h0 => (hk b hb' h0).1.trans h0.symm) (fun h1 => (ho b h1).trans h1.symm), rfl⟩) hm
  | own k' T' rows' =>
    rcases hm with ⟨h0, h1⟩ | ⟨b, cap, xs, hH, hB, hO, hb, hlc, hcm, hsz, hw, hc⟩
    · exact .inl ⟨h0, h1⟩
    · exact .inr ⟨b, cap, xs, hH, hB, ho b hO, hb, hlc, hcm, hsz, hw, fun i r j d hi hj => by
        obtain ⟨x, hx, hr, h1⟩ := hc i r j d hi hj
        exact ⟨x, hx, hr.mono hk, h1⟩⟩
  | box cs =>
    obtain ⟨b, xs, T, hH, hB, hO, hb, hsz, hc⟩ := hm
    exact ⟨b, xs, T, hH, hB, ho b hO, hb, hsz, fun i s hs => by
      obtain ⟨x, hx, hr, h1⟩ := hc i s hs
      exact ⟨x, hx, hr.keeps hk, h1⟩⟩

def setL (O : Nat → Nat) (b l : Nat) : Nat → Nat := fun c => if c = b then l else O c
theorem setL_keeps {O : Nat → Nat} {w : World} {b l : Nat} (h : O b ≠ 0) : Keeps O w (setL O b l) w := fun c _ h0 => ⟨by unfold setL; rw [if_neg (fun e => by subst e; exact h h0)]; exact h0, rfl⟩
theorem pinK_add {O : Nat → Nat} {v : Value} {B : Nat} {w : World} {h b T : Nat} {F : PF} {l : List Value} (hq : (pinK F).q O v B w h) (hB : B ≤ b) (hb : w.heap[b]? = some (.cells l.toArray T (0, 0))) (hne : O b ≠ h + 1) : F b = none ∧ (pinK (updF F b T l)).q (setL O b (h + 1)) v B w h := by
  have hn : F b = none := by
    cases hF : F b with
    | none => rfl
    | some p => exact absurd (hq b p.1 p.2 hF).2.1 hne
  refine ⟨hn, fun c T' l' hc => ?_⟩
  unfold updF at hc
  by_cases he : c = b
  · subst he; rw [if_pos rfl] at hc; cases hc
    exact ⟨hB, by simp [setL], hb⟩
  · rw [if_neg he] at hc
    obtain ⟨g1, g2, g3⟩ := hq c T' l' hc
    exact ⟨g1, by simp [setL, he, g2], g3⟩

/-- A slice of plain values becomes part of a pinned memory. -/
theorem Tr.pinOwn (h h' : Nat) {F : PF} {T : Nat} {l : List Value} (hM : look M h = some (.any (pinK F))) (hM' : look M h' = some (.own 1 T (l.map fun v => [D.v v]))) (hh : h' ≠ h) (hl : l ≠ [])
    (hc : ∀ (b cap : Nat) (tl : List Value), F b = none → l.length ≤ cap → cap ≤ maxLen → Tr P N w0 O0 (fzE h' (.v (slc b l.length cap)) e) ((h, .any (pinK (updF F b T (l ++ tl)))) :: fzM h' (.v (slc b l.length cap)) M) c Q) : Tr P N w0 O0 e M c Q := by
  intro O H a w hst
  obtain ⟨b, cap, xs, hH, hB, hO, hb, hlc, hcm, hsz, hw, hcc⟩ := (hst.mem h' _ hM').ownSome (by rw [List.length_map]; exact List.length_pos_iff.2 hl)
  simp only [List.length_map] at hH hlc
  have hx : xs.toList.take l.length = l := by
    refine List.ext_getElem (by simp; omega) fun i h1 h2 => ?_
    obtain ⟨x, q1, q2, _⟩ := hcc i [.v l[i]] 0 (.v l[i]) (by simp [h2]) rfl
    cases q2 with
    | v _ =>
      have e1 : i * 1 + 0 = i := by omega
      rw [e1] at q1
      simp [Array.getElem?_eq_some_iff.1 q1 |>.2]
  have hxs : (l ++ xs.toList.drop l.length).toArray = xs := by
    apply Array.ext'
    simp only [List.toList_toArray]
    conv => rhs; rw [← List.take_append_drop l.length xs.toList, hx]
  obtain ⟨hn, hp⟩ := pinK_add (hst.mem h _ hM) (l := l ++ xs.toList.drop l.length) hB (by rw [hxs]; exact hb) (by rw [hO]; omega)
  have hk : Keeps O w (setL O b (h + 1)) w := setL_keeps (by rw [hO]; omega)
  have hst2 := fz_st (h := h') (dd := .v (slc b l.length cap)) hst hk (by rw [hH]; exact .v _) (fun c hc => by unfold setL; rw [if_neg (by omega)]) (fun c h2 hne h3 => by unfold setL; rw [if_neg (fun e => by subst e; rw [hO] at h3; omega)]; exact h3)
  refine hc b cap (xs.toList.drop l.length) hn hlc hcm _ H a w (hst2.memSet ?_)
  have : H h = H h := rfl
  exact hp
/-- .. or none, if it is empty. -/
theorem Tr.pinOwn0 (h h' : Nat) {F : PF} {T : Nat} {l : List Value} (hM : look M h = some (.any (pinK F))) (hM' : look M h' = some (.own 1 T (l.map fun v => [D.v v]))) (hh : h' ≠ h)
    (hc : ∀ (a : Option Addr) (b cap : Nat) (tl : List Value) (F' : PF), l.length ≤ cap → cap ≤ maxLen → ((a = none ∧ l = [] ∧ F' = F) ∨ (a = some ⟨b, 0, none⟩ ∧ F b = none ∧ F' = updF F b T (l ++ tl))) →
      Tr P N w0 O0 (fzE h' (.v (.slice a l.length cap)) e) ((h, .any (pinK F')) :: fzM h' (.v (.slice a l.length cap)) M) c Q) : Tr P N w0 O0 e M c Q := by
  by_cases hl : l = []
  · intro O H a w hst
    rcases hst.mem h' _ hM' with ⟨h0, _⟩ | ⟨b, cap, xs, hH, hB, hO, hb, hlc, hcm, hsz, hw, hcc⟩
    · have hst2 := fz_st (h := h') (dd := .v (.slice none l.length 0)) hst (O' := O) (fun _ _ h => ⟨h, rfl⟩) (by rw [h0, hl]; exact .v _) (fun _ _ => rfl) (fun _ _ _ h => h)
      exact hc none 0 0 [] F (by simp [hl]) (by simp [maxLen]) (.inl ⟨rfl, hl, rfl⟩) O H a w (hst2.memSet (hst.mem h _ hM))
    · have hxs : (l ++ xs.toList).toArray = xs := by rw [hl]; simp
      simp only [List.length_map] at hH hlc
      obtain ⟨hn, hp⟩ := pinK_add (hst.mem h _ hM) (l := l ++ xs.toList) hB (by rw [hxs]; exact hb) (by rw [hO]; omega)
      have hk : Keeps O w (setL O b (h + 1)) w := setL_keeps (by rw [hO]; omega)
      have hst2 := fz_st (h := h') (dd := .v (slc b l.length cap)) hst hk (by rw [hH]; exact .v _) (fun c hc => by unfold setL; rw [if_neg (by omega)]) (fun c h2 hne h3 => by unfold setL; rw [if_neg (fun e => by subst e; rw [hO] at h3; omega)]; exact h3)
      exact hc _ b cap xs.toList _ hlc hcm (.inr ⟨rfl, hn, rfl⟩) _ H a w (hst2.memSet hp)
  · exact Tr.pinOwn h h' hM hM' hh hl fun b cap tl h1 h2 h3 => hc _ b cap tl _ h2 h3 (.inr ⟨rfl, h1, rfl⟩)

/-- A variable of plain values becomes part of a pinned memory. -/
theorem Tr.pinBox (h h' : Nat) {F : PF} {cs : List S} {l : List Value} (hM : look M h = some (.any (pinK F))) (hM' : look M h' = some (.box cs)) (hcs : cs = l.map fun v => S.d (.v v)) (hh : h' ≠ h)
    (hc : ∀ (b T : Nat), F b = none → Tr P N w0 O0 (fzbE h' (fun k => .d (.v (ptr b k))) e) ((h, .any (pinK (updF F b T l))) :: (h', .gone) :: M) c Q) : Tr P N w0 O0 e M c Q := by
  subst hcs
  intro O H a w hst
  obtain ⟨b, xs, T, hH, hB, hO, hb, hsz, hcc⟩ := hst.mem h' _ hM'
  have hxs : l.toArray = xs := by
    apply Array.ext'
    refine List.ext_getElem (by simpa using hsz.symm) fun i h1 h2 => ?_
    obtain ⟨x, q1, q2, _⟩ := hcc i (.d (.v l[i])) (by simp [show i < l.length by simpa using h1])
    have := rep_v q2
    simp [Array.getElem?_eq_some_iff.1 q1 |>.2, this]
  obtain ⟨hn, hp⟩ := pinK_add (hst.mem h _ hM) (l := l) hB (by rw [hxs]; exact hb) (by rw [hO]; omega)
  have hk : Keeps O w (setL O b (h + 1)) w := setL_keeps (by rw [hO]; omega)
  have hrep : ∀ (n : Nat) (x : Value) (s : S), RepS O H w x s → RepS (setL O b (h + 1)) H w x (fzb h' (fun k => .d (.v (ptr b k))) n s) := fzb_rep hk fun x k hr => by
    cases hr with
    | r h2 b2 k hH2 =>
      rw [hH] at hH2
      simp only [Value.pointer.injEq, Option.some.injEq, Addr.mk.injEq, and_true] at hH2
      subst hH2
      exact .d _ _ (.v _)
  refine hc b T hn (setL O b (h + 1)) H a w ⟨hst.df, hst.sz, hst.bl, fun c hc => ?_, fun n s hs => ?_, fun n m hm => ?_⟩
  · unfold setL; rw [if_neg (by omega)]; exact hst.lab c hc
  · unfold fzbE at hs
    rw [look_map (fun _ v => fzb h' (fun k => .d (.v (ptr b k))) 9 v)] at hs
    obtain ⟨s', hs', rfl⟩ := Option.map_eq_some_iff.1 hs
    obtain ⟨x, hx, hr⟩ := hst.slots n s' hs'
    exact ⟨x, hx, hrep 9 x s' hr⟩
  · rcases look_cons hm with ⟨rfl, rfl⟩ | ⟨_, hm⟩
    · exact hp
    · rcases look_cons hm with ⟨rfl, rfl⟩ | ⟨hne, hm⟩
      · trivial
      · exact (hst.mem n m hm).relab hk fun c hcn => by unfold setL; rw [if_neg (fun e => by subst e; rw [hO] at hcn; omega)]; exact hcn

/-- A function that hands over a pinned memory. -/
structure DoesNP (P : Program) (f : Nat) (args : List S) (R : PF → Value → Prop) : Prop where
  can : ∀ xs w, (callFunc f xs).run P w = .ok (.enter f xs) w
  run : ∀ (O : Nat → Nat) (w : World) (xs : List Value), xs.length = args.length → (∀ (i : Nat) (x : Value) (s : S), xs[i]? = some x → args[i]? = some s → RepS O zH w x s) →
    Calls P f xs.toArray w fun en w' => ∃ F v, en = .returned v ∧ R F v ∧ Below w.heap.size w w' ∧ ∀ b T l, F b = some (T, l) → w.heap.size ≤ b ∧ w'.heap[b]? = some (.cells l.toArray T (0, 0))
def RetNP (w0 : World) (R : PF → Value → Prop) : Ending → World → Prop :=
  fun en w' => ∃ F v, en = .returned v ∧ R F v ∧ Below w0.heap.size w0 w' ∧ ∀ b T l, F b = some (T, l) → w0.heap.size ≤ b ∧ w'.heap[b]? = some (.cells l.toArray T (0, 0))
theorem DoesNP.of_body {f : Nat} {args : List S} {R : PF → Value → Prop} {fn : Func} {c : Code} (hf : P.funcs[f]? = some fn) (hb : fn.body = some c) (hN : fn.ntmps = N) (hlen : args.length ≤ N)
    (can : ∀ xs w, (callFunc f xs).run P w = .ok (.enter f xs) w) (h : ∀ (w0 : World) (O0 : Nat → Nat), Tr P N w0 O0 (entry 0 args) [] c (bodyPost P fn (RetNP w0 R))) : DoesNP P f args R := by
  refine ⟨can, fun O w xs hl hx => calls_of_wp hf hb (h w O O zH _ w ⟨rfl, ?_, .refl _ _, fun _ _ => rfl, fun n s hs => ?_, fun n s hs => by cases hs⟩)⟩
  · simp; omega
  · obtain ⟨_, hn⟩ := look_entry args 0 n s hs
    simp only [Nat.sub_zero] at hn
    have hlt : n < xs.length := by rw [hl]; exact (List.getElem?_eq_some_iff.1 hn).1
    refine ⟨xs[n], ?_, hx n _ s (List.getElem?_eq_getElem hlt) hn⟩
    rw [Array.getElem?_append_left (by simpa using hlt)]
    simp [hlt]
theorem At.retNP {R : PF → Value → Prop} {fn : Func} {t h : Nat} {F : PF} {v : Value} (hres : fn.results.toList = [.tmp t]) (ho : look e t = some (.d (.v v))) (hM : look M h = some (.any (pinK F))) (hR : R F v) :
    At N w0 O0 e M .ret (bodyPost P fn (RetNP w0 R)) := by
  intro O H a w hst
  obtain ⟨x, hx, hr⟩ := hst.slots _ _ ho
  have hm := hst.mem h _ hM
  exact ⟨hst.df, _, retO_run hres hx, F, v, by rw [rep_v hr], hR, hst.bl, fun b T l hF => ⟨(hm b T l hF).1, (hm b T l hF).2.2⟩⟩
theorem TrOps.callNP {g : Operand} {as_ : Array Operand} {ts : Array TypeId} {fn d : Nat} {fs cs l args args' : List S} {R : PF → Value → Prop} (h : Nat)
    (hspec : DoesNP P fn args R) (ho : o.op = .call { callee := .value g, args := as_, argTypes := ts }) (hgd : o.guard = none) (hd : o.dst = some d) (hdN : d < N) (hg : opS e g = some (.f fn fs cs)) (ha : opsS e as_.toList = some l)
    (hv : (fs ++ l ++ cs).mapM (S.view M 9) = some args') (hle : Les args' args)
    (hn : ∀ F v, R F v → TrOps P N w0 O0 ops Q ((d, .d (.v v)) :: e) ((h, .any (pinK F)) :: M) rest) : TrOps P N w0 O0 ops Q e M (o :: rest) := by
  intro O H a w hst
  refine wpList_plain hgd fun K hK => Oper.wp_false ?_ Q
  have hg' := hst.slotsAt #[g] g (by simp) _ hg
  have hsz := hst.size
  generalize hgv : a.eval g = gv at hg'
  cases hg' with
  | f _ xs ys _ _ hl hl' hx hy =>
    obtain ⟨a1, a2⟩ := opsS_rep (O := O) (H := H) (w := w) (a := a) as_.toList l ha (fun x hx s hs' => hst.slotsAt as_ x (by simpa using hx) s hs')
    have hrun := run_call (o := o) hspec.can a w g as_ ts ho hgv rfl
    have hrep := rep_app (by rw [List.length_append, List.length_append, hl, List.length_map, a1]) (rep_app hl hx a2) hy
    obtain ⟨m1, m2⟩ := mapM_some hv
    obtain ⟨q1, q2⟩ := hle.get
    have hlen : (xs ++ as_.toList.map a.eval ++ ys).length = (fs ++ l ++ cs).length := by simp only [List.length_append, List.length_map, hl, hl', a1]
    unfold Oper.wp
    rw [hrun]
    refine (hspec.run zO w _ (by rw [hlen, ← m1, q1]) (fun i x s hi hs' => ?_)).mono ?_
    · have hlt' : i < args'.length := by rw [q1]; exact (List.getElem?_eq_some_iff.1 hs').1
      have hlt : i < (fs ++ l ++ cs).length := by rw [← m1]; exact hlt'
      exact q2 i _ _ (List.getElem?_eq_getElem hlt') hs' _ _ _ _ (RepS.view hst.mem 9 (hrep i x _ hi (List.getElem?_eq_getElem hlt)) (m2 i _ _ (List.getElem?_eq_getElem hlt) (List.getElem?_eq_getElem hlt')))
    · rintro en w' ⟨F, v, rfl, hR, hb, hp⟩
      obtain ⟨O', hO'⟩ : ∃ O' : Nat → Nat, O' = fun b => if b < w.heap.size then O b else h + 1 := ⟨_, rfl⟩
      have hk : Keep none none O H w O' H w' := ⟨fun b hb' => by rw [hO']; simp [hb'], fun b hb' _ => hb.block b hb', fun _ _ => rfl⟩
      refine hK _ _ (hn F v hR O' H _ _ ⟨?_, ?_, hst.bl.trans (hb.mono hsz), fun b hb' => (hk.lab b (by omega)).trans (hst.lab b hb'), ?_, fun n m hm => ?_⟩)
      · rw [hd]; exact hst.df
      · rw [hd]; simp [Act.put, hst.sz]
      · rw [hd]
        exact put_slots hst.sz hdN (.d _ _ (.v _)) fun n s hs => by
          obtain ⟨y, hy, hr⟩ := hst.slots n s hs
          exact ⟨y, hy, hr.mono0 hk⟩
      · rcases look_cons hm with ⟨rfl, rfl⟩ | ⟨_, hm⟩
        · intro b T l hF
          obtain ⟨h1, h2⟩ := hp b T l hF
          exact ⟨by omega, by rw [hO']; simp; omega, h2⟩
        · exact (hst.mem n m hm).mono hk (by simp) (by simp) 0 (fun h he => by cases he) (.inl rfl)

/-- All of a pinned memory is given up: what a slot points to is data. -/
theorem Tr.freezeP (h n : Nat) {F : PF} {v : Value} {s : S} (hM : look M h = some (.any (pinK F))) (hn : look e n = some (.d (.v v)))
    (hr : ∀ (O : Nat → Nat) (w : World), (∀ b T l, F b = some (T, l) → O b = 0 ∧ w.heap[b]? = some (.cells l.toArray T (0, 0))) → ∀ H, RepS O H w v s)
    (hc : Tr P N w0 O0 ((n, s) :: e) ((h, .gone) :: M) c Q) : Tr P N w0 O0 e M c Q := by
  intro O H a w hst
  have hm := hst.mem h _ hM
  obtain ⟨O', hO'⟩ : ∃ O' : Nat → Nat, O' = fun b => if (F b).isSome then 0 else O b := ⟨_, rfl⟩
  have hk : Keeps O w O' w := fun b _ h0 => ⟨by rw [hO']; simp only []; split; rfl; exact h0, rfl⟩
  have hin : ∀ b, (F b).isSome = true → w0.heap.size ≤ b ∧ O b = h + 1 := fun b hb => by
    obtain ⟨p, hp⟩ := Option.isSome_iff_exists.1 hb
    obtain ⟨g1, g2, _⟩ := hm b p.1 p.2 hp
    exact ⟨g1, g2⟩
  refine hc O' H a w ⟨hst.df, hst.sz, hst.bl, fun b hb => ?_, fun m t hs => ?_, fun m mo hmo => ?_⟩
  · rw [hO']; simp only []; rw [if_neg (fun hs => by have := (hin b hs).1; omega)]; exact hst.lab b hb
  · rcases look_cons hs with ⟨rfl, rfl⟩ | ⟨_, hs⟩
    · obtain ⟨x, hx, hxr⟩ := hst.slots _ _ hn
      refine ⟨x, hx, ?_⟩
      rw [rep_v hxr]
      exact hr O' w (fun b T l hF => ⟨by rw [hO']; simp [hF], (hm b T l hF).2.2⟩) H
    · obtain ⟨x, hx, hxr⟩ := hst.slots m t hs
      exact ⟨x, hx, hxr.keeps hk⟩
  · rcases look_cons hmo with ⟨rfl, rfl⟩ | ⟨hne, hmo⟩
    · trivial
    · exact (hst.mem m mo hmo).relab hk fun b hb => by rw [hO']; simp only []; rw [if_neg (fun hs => by have := (hin b hs).2; omega)]; exact hb
end

/-- A tableau, seen as data. -/
abbrev tbS (t : Tb) : S := .p [rows t.rs, ints t.bs, .v (.int .i64 t.dn)]
theorem tab_rep {g : Ids} {t : Tb} (hk : TabOk g t) {O : Nat → Nat} {w : World} (h : ∀ b T l, tabF g t b = some (T, l) → O b = 0 ∧ w.heap[b]? = some (.cells l.toArray T (0, 0))) (H : Nat → Value) : RepS O H w (ptr g.s 0) (tbS t) := by
  obtain ⟨s1, s2⟩ := h _ _ _ (tab_s (g := g) (t := t))
  obtain ⟨r1, r2⟩ := h _ _ _ (tab_r hk)
  have hrows : RepD O w (slc g.r t.rs.length g.rc) (rows t.rs) := by
    have hl : (t.rs.map fun r => [ints r]).length = t.rs.length := by simp
    have := RepD.s (O := O) (w := w) g.r 0 g.rc 1 (t.rs.map fun r => [ints r]) (fun i => slc (rbk g i) g.w (rck g i)) (by rw [hl]; exact hk.rc.1) hk.rc.2 (fun r hr => by obtain ⟨x, _, rfl⟩ := List.mem_map.1 hr; rfl) (fun _ _ _ _ _ _ => r1) (fun i r j d hi hj => ?_) (fun i r j d hi hj => ?_)
    · rw [hl] at this; exact this
    all_goals
      rw [List.getElem?_map, Option.map_eq_some_iff] at hi
      obtain ⟨x, hx, rfl⟩ := hi
      obtain ⟨hi', hxe⟩ := List.getElem?_eq_some_iff.1 hx
      obtain rfl : j = 0 := by have := (List.getElem?_eq_some_iff.1 hj).1; simp at this; exact this
      simp only [List.getElem?_cons_zero, Option.some.injEq] at hj
      subst hj
      have e1 : i * 1 + 0 = i := by omega
      have hlb : i < g.rb.length := by have := hk.len; omega
    · rw [e1]
      refine cellOf r2 ?_
      rw [Nat.zero_add]
      simp only [List.getElem?_toArray]
      rw [List.getElem?_append_left (by simpa using hlb), List.getElem?_map, List.getElem?_range hlb, Option.map_some]
    · rw [e1]
      obtain ⟨b1, b2⟩ := h _ _ _ (tab_row hk (i := (i : Int)) (by omega) (by omega))
      have hw := hk.w i hi'
      have hxn : nth t.rs i = x := by rw [nth_eq hi', hxe]
      rw [hxn] at b2 hw
      have hl2 : (x.map fun n => [D.v (.int .i64 n)]).length = g.w := by simpa using hw
      have := RepD.s (O := O) (w := w) (rbk g i) 0 (rck g i) 1 (x.map fun n => [D.v (.int .i64 n)]) (fun j => .int .i64 (x.getD j 0)) (by rw [hl2]; exact (hk.cc i hi').1) (hk.cc i hi').2 (fun r hr => by obtain ⟨y, _, rfl⟩ := List.mem_map.1 hr; rfl) (fun _ _ _ _ _ _ => b1) (fun i2 r2 j2 d2 hi2 hj2 => ?_) (fun i2 r2 j2 d2 hi2 hj2 => ?_)
      · rw [hl2] at this; exact this
      all_goals
        rw [List.getElem?_map, Option.map_eq_some_iff] at hi2
        obtain ⟨y, hy, rfl⟩ := hi2
        obtain rfl : j2 = 0 := by have := (List.getElem?_eq_some_iff.1 hj2).1; simp at this; exact this
        simp only [List.getElem?_cons_zero, Option.some.injEq] at hj2
        subst hj2
        have e2 : i2 * 1 + 0 = i2 := by omega
      · rw [e2]
        refine cellOf b2 ?_
        rw [Nat.zero_add]
        simp only [List.getElem?_toArray]
        rw [List.getElem?_append_left (by have := (List.getElem?_eq_some_iff.1 hy).1; simpa [iv] using this)]
        simp [iv, hy]
      · rw [e2]; simp [hy]; exact .v _
  have hbas : RepD O w (.slice g.ba t.bs.length g.bc) (ints t.bs) := by
    by_cases hb : t.bs = []
    · rw [hb]; exact .e _ _ _ hk.bc.2
    · obtain ⟨ba, _⟩ := hk.ba hb
      obtain ⟨b1, b2⟩ := h _ _ _ (tab_b hk hb)
      rw [ba]
      have hl2 : (t.bs.map fun n => [D.v (.int .i64 n)]).length = t.bs.length := by simp
      have := RepD.s (O := O) (w := w) g.bb 0 g.bc 1 (t.bs.map fun n => [D.v (.int .i64 n)]) (fun j => .int .i64 (t.bs.getD j 0)) (by rw [hl2]; exact hk.bc.1) hk.bc.2 (fun r hr => by obtain ⟨y, _, rfl⟩ := List.mem_map.1 hr; rfl) (fun _ _ _ _ _ _ => b1) (fun i2 r2 j2 d2 hi2 hj2 => ?_) (fun i2 r2 j2 d2 hi2 hj2 => ?_)
      · rw [hl2] at this; exact this
      all_goals
        rw [List.getElem?_map, Option.map_eq_some_iff] at hi2
        obtain ⟨y, hy, rfl⟩ := hi2
        obtain rfl : j2 = 0 := by have := (List.getElem?_eq_some_iff.1 hj2).1; simp at this; exact this
        simp only [List.getElem?_cons_zero, Option.some.injEq] at hj2
        subst hj2
        have e2 : i2 * 1 + 0 = i2 := by omega
      · rw [e2]
        refine cellOf b2 ?_
        rw [Nat.zero_add]
        simp only [List.getElem?_toArray]
        rw [List.getElem?_append_left (by have := (List.getElem?_eq_some_iff.1 hy).1; simpa [iv] using this)]
        simp [iv, hy]
      · rw [e2]; simp [hy]; exact .v _
  refine .p g.s 0 _ (fun j => [slc g.r t.rs.length g.rc, .slice g.ba t.bs.length g.bc, .int .i64 t.dn].getD j undef) (fun _ _ _ => s1) (fun j d hd => ?_) (fun j d hd => ?_)
  · have hj := (List.getElem?_eq_some_iff.1 hd).1
    refine cellOf s2 ?_
    rw [Nat.zero_add]
    simp only [List.length_cons, List.length_nil] at hj
    rcases j with _ | _ | _ | j <;> first | rfl | omega
  · have hj := (List.getElem?_eq_some_iff.1 hd).1
    simp only [List.length_cons, List.length_nil] at hj
    rcases j with _ | _ | _ | j
    · simp at hd; subst hd; exact hrows
    · simp at hd; subst hd; exact hbas
    · simp at hd; subst hd; exact .v _
    · omega
end Go.Eng
end

section
/- Plain functions of package linear around the tableau. -/

set_option linter.unusedSimpArgs false
set_option linter.unnecessarySimpa false
set_option linter.unusedVariables false
namespace Go.Eng
theorem gcd_step {a b : Int} : Int.gcd b (a.tmod b) = Int.gcd a b := by
  unfold Int.gcd
  rw [Int.natAbs_tmod, Nat.gcd_comm, ← Nat.gcd_rec, Nat.gcd_comm]
theorem tmod_lt {a b : Int} (hb : b ≠ 0) : (a.tmod b).natAbs < b.natAbs := by
  rw [Int.natAbs_tmod]; exact Nat.mod_lt _ (by omega)
theorem gcd_max {a : Int} : max a (-a) = (Int.gcd a 0 : Int) := by
  unfold Int.gcd; simp only [Int.natAbs_zero, Nat.gcd_zero_right]; omega
structure LpOk (p : LPr) : Prop where
  r6 : p.rws.length ≤ 6
  o6 : p.obj.length ≤ 6
  b : p.bnd.length = p.rws.length
  o : ∀ j : Nat, j < p.obj.length → -20 ≤ nth p.obj j ∧ nth p.obj j ≤ 20
  w : ∀ i : Nat, i < p.rws.length → (nth p.rws i).length = p.obj.length
  bb : ∀ i : Nat, i < p.rws.length → -20 ≤ nth p.bnd i ∧ nth p.bnd i ≤ 20
  c : ∀ i : Nat, i < p.rws.length → ∀ j : Nat, j < p.obj.length → -4 ≤ nth (nth p.rws i) j ∧ nth (nth p.rws i) j ≤ 4
/-! ### vectors -/
def vgTo (l : List Int) (d : Int) : Nat → Int
  | 0 => d
  | k + 1 => (Int.gcd (vgTo l d k) (nth l k) : Int)
def vgF (l : List Int) (d : Int) : Int := vgTo l d l.length
theorem vg_pos {l : List Int} {d : Int} (hd : 0 < d) : ∀ {k : Nat}, 0 < vgTo l d k ∧ vgTo l d k ≤ d
  | 0 => ⟨hd, Int.le_refl _⟩
  | k + 1 => by
    obtain ⟨h1, h2⟩ := vg_pos (l := l) hd (k := k)
    simp only [vgTo]
    have h3 : Int.gcd (vgTo l d k) (nth l k) ≤ (vgTo l d k).natAbs := Nat.le_of_dvd (by omega) (Int.gcd_dvd_natAbs_left _ _)
    have h4 : 0 < Int.gcd (vgTo l d k) (nth l k) := Int.gcd_pos_of_ne_zero_left _ (by omega)
    omega
def vnL (l : List Int) (d : Int) : List Int := l.map fun n => n.tdiv (vgF l d)
def vnS (l : List Int) (d : Int) (k : Nat) : List Int := (List.range l.length).map fun (i : Nat) => if i < k then (nth l i).tdiv (vgF l d) else 0
theorem vn_len {l : List Int} {d : Int} {k : Nat} : (vnS l d k).length = l.length := by simp [vnS]
theorem vn_0 {l : List Int} {d : Int} : vnS l d 0 = List.replicate l.length 0 := by
  apply List.ext_getElem (by simp [vnS])
  intro i h1 h2; simp [vnS]
theorem vn_s {l : List Int} {d : Int} {k : Nat} (hk : k < l.length) : (vnS l d k).set k ((nth l k).tdiv (vgF l d)) = vnS l d (k + 1) := by
  apply List.ext_getElem (by simp [vnS])
  intro j h1 h2
  rw [List.getElem_set]
  simp only [vnS, List.getElem_map, List.getElem_range]
  by_cases hj : k = j
  · subst hj; simp
  · rw [if_neg hj]
    by_cases h : j < k
    · rw [if_pos h, if_pos (by omega)]
    · rw [if_neg h, if_neg (by omega)]
theorem vn_end {l : List Int} {d : Int} : vnS l d l.length = vnL l d := by
  apply List.ext_getElem (by simp [vnS, vnL])
  intro j h1 h2
  have hj : j < l.length := by simpa [vnL] using h2
  simp only [vnS, vnL, List.getElem_map, List.getElem_range]
  rw [if_pos hj, nth_eq hj]
/-! ### points -/
def ptTo (t : Tb) (n : Nat) (col sign : Int) : Nat → List Int
  | 0 => List.replicate n 0
  | k + 1 => if nth t.bs k < n then (ptTo t n col sign k).set (nth t.bs k).toNat (sign * cel t k col) else ptTo t n col sign k
theorem pt_len {t : Tb} {n : Nat} {col sign : Int} : ∀ {k : Nat}, (ptTo t n col sign k).length = n
  | 0 => by simp [ptTo]
  | k + 1 => by simp only [ptTo]; split; rw [List.length_set]; exact pt_len; exact pt_len
theorem pt_t {t : Tb} {n : Nat} {col sign : Int} {k : Nat} (h : nth t.bs k < n) : ptTo t n col sign (k + 1) = (ptTo t n col sign k).set (nth t.bs k).toNat (sign * cel t k col) := by simp only [ptTo]; rw [if_pos h]
theorem pt_f {t : Tb} {n : Nat} {col sign : Int} {k : Nat} (h : ¬ nth t.bs k < n) : ptTo t n col sign (k + 1) = ptTo t n col sign k := by simp only [ptTo]; rw [if_neg h]
def ptF (t : Tb) (n : Nat) (col sign : Int) : List Int := ptTo t n col sign t.bs.length
theorem tdiv_le {a b : Int} : (a.tdiv b).natAbs ≤ a.natAbs := by rw [Int.natAbs_tdiv]; exact Nat.div_le_self _ _
theorem tdiv_pos {a b : Int} (h1 : 0 < b) (h2 : b ≤ a) : 0 < a.tdiv b := by
  rw [Int.tdiv_eq_ediv_of_nonneg (by omega)]
  have := (Int.le_ediv_iff_mul_le (a := 1) (b := a) h1).2 (by omega)
  omega
/-! ### fractions -/
def lowF (n d : Int) : Int × Int := (n.tdiv (Int.gcd n d : Int), d.tdiv (Int.gcd n d : Int))
theorem low_ok {n d : Int} (h0 : -1000000000 ≤ n) (h1 : n ≤ 1000000000) (h2 : 0 < d) (h3 : d ≤ 1000000000) : -1000000000 ≤ (lowF n d).1 ∧ (lowF n d).1 ≤ 1000000000 ∧ 0 < (lowF n d).2 ∧ (lowF n d).2 ≤ 1000000000 ∧ Int.gcd (lowF n d).1 (lowF n d).2 = 1 ∧ 0 < (Int.gcd n d : Int) ∧ (Int.gcd n d : Int) ≤ d := by
  have hg : 0 < Int.gcd n d := Int.gcd_pos_of_ne_zero_right _ (by omega)
  have hgd : Int.gcd n d ≤ d.natAbs := Nat.le_of_dvd (by omega) (Int.gcd_dvd_natAbs_right _ _)
  have a1 := tdiv_le (a := n) (b := (Int.gcd n d : Int))
  have a2 := tdiv_le (a := d) (b := (Int.gcd n d : Int))
  have a3 := tdiv_pos (a := d) (b := (Int.gcd n d : Int)) (by omega) (by omega)
  unfold lowF
  refine ⟨by simp only []; omega, by simp only []; omega, a3, by simp only []; omega, ?_, by omega, by omega⟩
  simp only []
  unfold Int.gcd
  rw [Int.natAbs_tdiv, Int.natAbs_tdiv]
  simp only [Int.natAbs_natCast]
  unfold Int.gcd at hg
  have e1 : (n.natAbs.div (n.natAbs.gcd d.natAbs)).gcd (d.natAbs.div (n.natAbs.gcd d.natAbs)) = n.natAbs.gcd d.natAbs / n.natAbs.gcd d.natAbs := Nat.gcd_div (Nat.gcd_dvd_left _ _) (Nat.gcd_dvd_right _ _)
  rw [e1]; exact Nat.div_self hg
end Go.Eng
end
