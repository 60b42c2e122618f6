/- The engine, part 9: regions whose order Go leaves open: the lexical walk serves every order. -/
import Derived.Test.YtohlmcebphcokaaEng8
set_option linter.unusedSimpArgs false
set_option linter.unnecessarySimpa false
set_option linter.unusedVariables false
namespace Go.Eng
open Go.RowKit (Below)

/-- What one operation of the open part leaves: its slot, what is known of it, a new handle. -/
structure PO where
  d : Nat
  s : S
  mo : Option (Nat × Mo)
  /-- a store: the variable, what it held, what it holds -/
  st : Option (Nat × Mo × Mo) := none
  /-- a slot is written -/
  ds : Bool := true

def PO.env (p : PO) (e : Env) : Env := bif p.ds then (p.d, p.s) :: e else e
def PO.mem (p : PO) (M : Mem) : Mem := match p.st with | some (h, _, m') => (h, m') :: M | none => match p.mo with | some m => m :: M | none => M
def finE (e : Env) (ps : List PO) : Env := ps.foldl (fun e p => p.env e) e
def finM (M : Mem) (ps : List PO) : Mem := ps.foldl (fun M p => p.mem M) M
/-- Memory without the variables that are written. -/
def dropM (hs : List Nat) (M : Mem) : Mem := M.filter fun x => !(hs.any fun h => Nat.beq h x.1)

/-- Is the operation's guard met? -/
def Met (ops : Array Oper) (e : Env) (o : Oper) (b : Bool) : Prop :=
  match o.guard with
  | none => b = true
  | some (j, want) => ∃ (oj : Oper) (d : Nat) (v : Value), ops[j]? = some oj ∧ oj.dst = some d ∧ look e d = some (.d (.v v)) ∧ b = isB want v

/-- A store into a variable of the call's own. -/
def OpSt (P : Program) (B : Nat) (o : Oper) (e : Env) (h : Nat) (m m' : Mo) (s : S) : Prop :=
  ∀ (O : Nat → Nat) (H : Nat → Value) (a : Act) (w : World), B ≤ w.heap.size → Slots a O H w e o.op.operands → MHold O H B w h m →
    ∀ K : Act → World → Prop, (∀ w' x, Keep (some h) none O H w O H w' → Below B w w' → MHold O H B w' h m' → RepS O H w' x s → K (a.put o.dst x) w') → o.wp P a w K (fun _ _ _ => False)

def PStep (P : Program) (B : Nat) (ops : Array Oper) (hs : List Nat) (M : Mem) (e : Env) (o : Oper) (p : PO) : Prop :=
  match p.st with
  | none => p.ds = true ∧ o.dst = some p.d ∧ ((Met ops e o true ∧ OpSem P B o e (dropM hs M) p.s p.mo) ∨ (Met ops e o false ∧ p.s = .d (.v undef) ∧ p.mo = none))
  | some (h, m, m') => o.dst = (bif p.ds then some p.d else none) ∧ o.guard = none ∧ p.mo = none ∧ look M h = some m ∧ OpSt P B o e h m m' p.s

def PW (P : Program) (B : Nat) (ops : Array Oper) (hs : List Nat) (M : Mem) : List Oper → List PO → Env → Prop
  | [], [], _ => True
  | o :: os, p :: ps, e => PStep P B ops hs M e o p ∧ PW P B ops hs M os ps (p.env e)
  | _, _, _ => False

/-- The operations that surely come before operation i. -/
def prec (ops : Array Oper) : Nat → Nat → Nat → Bool
  | 0, _, _ => false
  | n + 1, i, j => match ops[i]? with
    | some o => o.after.any fun e => Region.binds .any e && (Nat.beq e.on j || prec ops n e.on j)
    | none => false

def tmpsOf (ops : Array Oper) (o : Oper) : List Nat :=
  (o.op.operands.toList.filterMap fun | .tmp t => some t | _ => none) ++ (match o.guard with | some (g, _) => ((ops[g]?).bind (·.dst)).toList | none => [])

/-- The first k operations may come in any order, each behind what it reads; the rest in the order of the text. -/
def parOk (ops : Array Oper) (k : Nat) : Bool :=
  let ds : List (Option Nat) := ops.toList.map (·.dst)
  (List.range ops.size).all fun i => match ops[i]? with
    | none => false
    | some o =>
      (o.after.all fun e => !(Region.binds .any e) || decide (e.on < i)) &&
      (if i < k then
        (List.range k).all fun j => match ds.getD j none with
          | some d => (i == j || o.dst != some d) && (!((tmpsOf ops o).contains d) || (decide (j < i) && prec ops 9 i j) || (decide (i < j) && prec ops 9 j i))
          | none => true
      else (List.range i).all fun j => prec ops 9 i j)

/-- What is asked of the open part. -/
def ParHd (ops : Array Oper) (k : Nat) : Prop := ∀ (i : Nat) (o : Oper), i < k → ops[i]? = some o → ((List.range k).all fun j => match (ops.toList.map (·.dst)).getD j none with
  | some d => (i == j || o.dst != some d) && (!((tmpsOf ops o).contains d) || (decide (j < i) && prec ops 9 i j) || (decide (i < j) && prec ops 9 j i))
  | none => true) = true
theorem parOk_hd {ops : Array Oper} {k : Nat} (hok : parOk ops k = true) : ParHd ops k := by
  intro i o hik ho
  unfold parOk at hok
  simp only [List.all_eq_true, List.mem_range] at hok
  have := hok i (Array.getElem?_eq_some_iff.1 ho).1
  simp only [ho, hik, if_true, Bool.and_eq_true] at this
  exact this.2

/-- New handles are named nowhere else. -/
def handOk (e0 : Env) (M0 : Mem) (ps : List PO) : Bool :=
  ps.all fun p => match p.mo with
    | none => true
    | some (h, _) => e0.all (fun x => S.ok 9 h x.2) && M0.all (fun x => !(Nat.beq x.1 h) && Mo.ok 9 h x.2) &&
        ps.all fun q => (Nat.beq q.d p.d && q.st.isNone) || (S.ok 9 h q.s && (match q.mo with | none => true | some (h', m') => !(Nat.beq h' h) && Mo.ok 9 h m') &&
          (match q.st with | none => true | some (h', m', m'') => !(Nat.beq h' h) && Mo.ok 9 h m' && Mo.ok 9 h m''))
/-- Each variable is written once, and among those that are dropped; all that are dropped are written. -/
def stOk (hs : List Nat) (ps : List PO) : Bool :=
  (List.range ps.length).all (fun i => match ps[i]? with
    | some p => match p.st with
      | none => true
      | some (h, _, _) => hs.any (fun x => Nat.beq x h) && (List.range ps.length).all fun j => i == j || match ps[j]? with
        | some q => (match q.st with | none => true | some (h', _, _) => !(Nat.beq h' h)) && (match q.mo with | none => true | some (h', _) => !(Nat.beq h' h))
        | none => true
    | none => true) && hs.all fun h => ps.any fun p => match p.st with | some (h', _, _) => Nat.beq h' h | none => false

theorem prec_closed {ops : Array Oper} {L : Array Bool} (hcl : ∀ i, L.getD i false = true → ∀ o, ops[i]? = some o → ∀ e, e ∈ o.after → Region.binds .any e = true → L.getD e.on false = true) :
    ∀ n i j, prec ops n i j = true → (∀ o, ops[i]? = some o → ∀ e, e ∈ o.after → Region.binds .any e = true → L.getD e.on false = true) → L.getD j false = true
  | 0, i, j, h, _ => by simp [prec] at h
  | n + 1, i, j, h, hi => by
    simp only [prec] at h
    cases ho : ops[i]? with
    | none => simp [ho] at h
    | some o =>
      simp only [ho, Array.any_eq_true'] at h
      obtain ⟨e, he, h⟩ := h
      simp only [Bool.and_eq_true, Bool.or_eq_true] at h
      obtain ⟨hb, h⟩ := h
      have hL := hi o ho e he hb
      rcases h with h | h
      · rw [← Nat.eq_of_beq_eq_true h]; exact hL
      · exact prec_closed hcl n e.on j h (fun o' ho' e' he' hb' => hcl e.on hL o' ho' e' he' hb')

section
variable {P : Program} {N : Nat} {w0 : World} {O0 : Nat → Nat} {ops : Array Oper} {Q : Post} {e0 : Env} {M0 : Mem} {hs : List Nat}

theorem PW.get {B : Nat} : ∀ {os : List Oper} {ps : List PO} {e : Env}, PW P B ops hs M0 os ps e → os.length = ps.length ∧
    ∀ (i : Nat) (o : Oper) (p : PO), os[i]? = some o → ps[i]? = some p → PStep P B ops hs M0 (finE e (ps.take i)) o p
  | [], [], e, _ => ⟨rfl, fun i o p h => by simp at h⟩
  | [], _ :: _, _, h => h.elim
  | _ :: _, [], _, h => h.elim
  | o :: os, p :: ps, e, h => by
    obtain ⟨h1, h2⟩ := h
    obtain ⟨i1, i2⟩ := PW.get h2
    refine ⟨by simp [i1], fun i o' p' ho hp => ?_⟩
    cases i with
    | zero => simp at ho hp; subst ho; subst hp; simpa [finE] using h1
    | succ i => simpa [finE] using i2 i o' p' (by simpa using ho) (by simpa using hp)

/-- What a slot holds behind the open part. -/
theorem look_finE {n : Nat} {s : S} : ∀ {ps : List PO} {e : Env}, look (finE e ps) n = some s → (∃ (i : Nat) (p : PO), ps[i]? = some p ∧ p.ds = true ∧ p.d = n ∧ p.s = s) ∨ ((∀ p, p ∈ ps → p.ds = true → p.d ≠ n) ∧ look e n = some s)
  | [], e, h => .inr ⟨fun p hp => by simp at hp, h⟩
  | p :: ps, e, h => by
    rcases look_finE (ps := ps) (e := p.env e) (by simpa [finE] using h) with ⟨i, q, hq, h0, h1, h2⟩ | ⟨h1, h2⟩
    · exact .inl ⟨i + 1, q, by simpa using hq, h0, h1, h2⟩
    · cases hp : p.ds with
      | true =>
        simp only [PO.env, hp, cond_true] at h2
        rcases look_cons h2 with ⟨rfl, rfl⟩ | ⟨hne, h2⟩
        · exact .inl ⟨0, p, rfl, hp, rfl, rfl⟩
        · refine .inr ⟨fun q hq hqs => ?_, h2⟩
          rcases List.mem_cons.1 hq with rfl | hq
          · exact fun h => hne h.symm
          · exact h1 q hq hqs
      | false =>
        simp only [PO.env, hp, cond_false] at h2
        refine .inr ⟨fun q hq hqs => ?_, h2⟩
        rcases List.mem_cons.1 hq with rfl | hq
        · rw [hp] at hqs; cases hqs
        · exact h1 q hq hqs

theorem look_finM {h : Nat} {m : Mo} : ∀ {ps : List PO} {M : Mem}, look (finM M ps) h = some m → (∃ (i : Nat) (p : PO), ps[i]? = some p ∧ p.st = none ∧ p.mo = some (h, m)) ∨ (∃ (i : Nat) (p : PO) (m0 : Mo), ps[i]? = some p ∧ p.st = some (h, m0, m)) ∨ ((∀ p, p ∈ ps → ∀ h' m0 m1, p.st = some (h', m0, m1) → h' ≠ h) ∧ look M h = some m)
  | [], M, hm => .inr (.inr ⟨fun p hp => by simp at hp, hm⟩)
  | p :: ps, M, hm => by
    have hm' : look (finM (p.mem M) ps) h = some m := by simpa [finM] using hm
    rcases look_finM hm' with ⟨i, q, hq, h0, h1⟩ | ⟨i, q, m0, hq, h1⟩ | ⟨h0, h1⟩
    · exact .inl ⟨i + 1, q, by simpa using hq, h0, h1⟩
    · exact .inr (.inl ⟨i + 1, q, m0, by simpa using hq, h1⟩)
    · cases hs : p.st with
      | none =>
        have h0' : ∀ q, q ∈ p :: ps → ∀ h' m0 m1, q.st = some (h', m0, m1) → h' ≠ h := fun q hq => by
          rcases List.mem_cons.1 hq with rfl | hq
          · intro h' m0 m1 he; rw [hs] at he; cases he
          · exact h0 q hq
        cases hp : p.mo with
        | none => simp only [PO.mem, hs, hp] at h1; exact .inr (.inr ⟨h0', h1⟩)
        | some mm =>
          obtain ⟨h', m'⟩ := mm
          simp only [PO.mem, hs, hp] at h1
          rcases look_cons h1 with ⟨rfl, rfl⟩ | ⟨_, h1⟩
          · exact .inl ⟨0, p, rfl, hs, hp⟩
          · exact .inr (.inr ⟨h0', h1⟩)
      | some x =>
        obtain ⟨h', m0, m1⟩ := x
        simp only [PO.mem, hs] at h1
        rcases look_cons h1 with ⟨rfl, rfl⟩ | ⟨hne, h1⟩
        · exact .inr (.inl ⟨0, p, m0, rfl, hs⟩)
        · refine .inr (.inr ⟨fun q hq => ?_, h1⟩)
          rcases List.mem_cons.1 hq with rfl | hq
          · intro h2 a b he; rw [hs] at he; cases he; exact fun e => hne e.symm
          · exact h0 q hq

theorem look_dropM {h : Nat} {m : Mo} : ∀ {M : Mem}, look (dropM hs M) h = some m → look M h = some m ∧ h ∉ hs
  | [], hm => by simp [dropM, look] at hm
  | (a, b) :: M, hm => by
    unfold dropM at hm
    rw [List.filter_cons] at hm
    split at hm
    · rename_i hx
      rcases look_cons hm with ⟨rfl, rfl⟩ | ⟨hne, hm⟩
      · refine ⟨look_cons_same _ _ _, fun hmem => ?_⟩
        have h1 : (hs.any fun x => Nat.beq x h) = true := List.any_eq_true.2 ⟨h, hmem, by simp⟩
        simp only [Bool.not_eq_true', h1] at hx
        cases hx
      · obtain ⟨i1, i2⟩ := look_dropM (M := M) hm
        refine ⟨?_, i2⟩
        simp only [look]
        have : Nat.beq a h = false := by cases hb : Nat.beq a h with
          | false => rfl
          | true => exact (hne (Nat.eq_of_beq_eq_true hb).symm).elim
        rw [this]; exact i1
    · rename_i hx
      obtain ⟨i1, i2⟩ := look_dropM (M := M) hm
      refine ⟨?_, i2⟩
      simp only [look]
      have : Nat.beq a h = false := by cases hb : Nat.beq a h with
        | false => rfl
        | true =>
          exfalso
          have he := Nat.eq_of_beq_eq_true hb
          subst he
          simp only [Bool.not_eq_true', Bool.not_eq_false, List.any_eq_true] at hx
          obtain ⟨x, hx1, hx2⟩ := hx
          rw [Nat.eq_of_beq_eq_true hx2] at hx1
          exact i2 hx1
      rw [this]; exact i1

theorem look_dropM_of {h : Nat} {m : Mo} (hn : h ∉ hs) : ∀ {M : Mem}, look M h = some m → look (dropM hs M) h = some m
  | [], hm => by simp [look] at hm
  | (a, b) :: M, hm => by
    unfold dropM
    rw [List.filter_cons]
    rcases look_cons hm with ⟨rfl, rfl⟩ | ⟨hne, hm⟩
    · rw [if_pos]
      · exact look_cons_same _ _ _
      · simp only [Bool.not_eq_true', ← Bool.not_eq_true, List.any_eq_true]
        rintro ⟨x, hx1, hx2⟩
        rw [Nat.eq_of_beq_eq_true hx2] at hx1
        exact hn hx1
    · have ih := look_dropM_of hn (M := M) hm
      split
      · simp only [look]
        have : Nat.beq a h = false := by cases hb : Nat.beq a h with
          | false => rfl
          | true => exact (hne (Nat.eq_of_beq_eq_true hb).symm).elim
        rw [this]; exact ih
      · exact ih

/-- The state in the middle of the open part: L: what has come up. -/
structure PSt (N : Nat) (w0 : World) (O0 : Nat → Nat) (e0 : Env) (hs : List Nat) (M0 : Mem) (ps : List PO) (L : Array Bool) (O : Nat → Nat) (H : Nat → Value) (a : Act) (w : World) : Prop where
  df : a.defers = []
  sz : a.tmps.size = N
  bl : Below w0.heap.size w0 w
  lab : ∀ b, b < w0.heap.size → O b = O0 b
  old : ∀ n s, look e0 n = some s → (∀ j p, ps[j]? = some p → p.ds = true → p.d = n → L.getD j false = false) → ∃ x, a.tmps[n]? = some x ∧ RepS O H w x s
  new : ∀ (i : Nat) (p : PO), ps[i]? = some p → p.ds = true → L.getD i false = true → ∃ x, a.tmps[p.d]? = some x ∧ RepS O H w x p.s
  mold : ∀ h m, look (dropM hs M0) h = some m → MHold O H w0.heap.size w h m
  mnew : ∀ (i : Nat) (p : PO) (h : Nat) (m : Mo), ps[i]? = some p → L.getD i false = true → p.st = none → p.mo = some (h, m) → MHold O H w0.heap.size w h m
  sto : ∀ (i : Nat) (p : PO) (h : Nat) (m m' : Mo), ps[i]? = some p → p.st = some (h, m, m') → MHold O H w0.heap.size w h (if L.getD i false = true then m' else m)

theorem getD_set {L : Array Bool} {i j : Nat} (hi : i < L.size) : (L.setIfInBounds i true).getD j false = if j = i then true else L.getD j false := by
  simp only [Array.getD_eq_getD_getElem?, Array.getElem?_setIfInBounds]
  by_cases h : i = j
  · subst h; simp [hi]
  · simp [h, Ne.symm h]

theorem stOk_get {ps : List PO} (hso : stOk hs ps = true) {i : Nat} {p : PO} {h : Nat} {m m' : Mo} (hp : ps[i]? = some p) (hst : p.st = some (h, m, m')) : h ∈ hs ∧ ∀ (j : Nat) (q : PO), ps[j]? = some q → j ≠ i →
    (∀ h' m0 m1, q.st = some (h', m0, m1) → h' ≠ h) ∧ (∀ h' m0, q.mo = some (h', m0) → h' ≠ h) := by
  unfold stOk at hso
  simp only [Bool.and_eq_true] at hso
  have hi : i < ps.length := (List.getElem?_eq_some_iff.1 hp).1
  have h1 := List.all_eq_true.1 hso.1 i (List.mem_range.2 hi)
  simp only [hp, hst, Bool.and_eq_true] at h1
  obtain ⟨h1, h2⟩ := h1
  refine ⟨?_, fun j q hq hne => ?_⟩
  · obtain ⟨x, hx, he⟩ := List.any_eq_true.1 h1
    rw [Nat.eq_of_beq_eq_true he] at hx
    exact hx
  · have hj : j < ps.length := (List.getElem?_eq_some_iff.1 hq).1
    have h3 := List.all_eq_true.1 h2 j (List.mem_range.2 hj)
    simp only [hq, Bool.or_eq_true, Bool.and_eq_true, beq_iff_eq] at h3
    rcases h3 with h3 | ⟨h3, h4⟩
    · exact absurd h3.symm hne
    · refine ⟨fun h' m0 m1 he => ?_, fun h' m0 he => ?_⟩
      · rw [he] at h3
        simp only [Bool.not_eq_true'] at h3
        exact fun e => by rw [e] at h3; simp at h3
      · rw [he] at h4
        simp only [Bool.not_eq_true'] at h4
        exact fun e => by rw [e] at h4; simp at h4

/-- One operation of the open part comes up. -/
theorem PSt.step {k : Nat} {ps : List PO} (hpw : PW P w0.heap.size ops hs M0 (ops.toList.take k) ps e0) (hk : k ≤ ops.size) (hok : ParHd ops k) (hh : handOk e0 M0 ps = true) (hso : stOk hs ps = true) {L : Array Bool} (hL : L.size = ops.size)
    (hcl : ∀ i, L.getD i false = true → ∀ o, ops[i]? = some o → ∀ e, e ∈ o.after → Region.binds .any e = true → L.getD e.on false = true)
    {O : Nat → Nat} {H : Nat → Value} {a : Act} {w : World} (hst : PSt N w0 O0 e0 hs M0 ps L O H a w) {i : Nat} (hik : i < k) {o : Oper} (ho : ops[i]? = some o)
    (hready : ∀ e, e ∈ o.after → Region.binds .any e = true → L.getD e.on false = true) (hnl : L.getD i false = false) (hN : ∀ p, p ∈ ps → p.ds = true → p.d < N)
    (K : Act → World → Prop) (hK : ∀ O' H' a' w', PSt N w0 O0 e0 hs M0 ps (L.setIfInBounds i true) O' H' a' w' → K a' w') : wpOp P ops Q i K a w := by
  obtain ⟨g1, g2⟩ := hpw.get
  have hlen : ps.length = k := by rw [← g1]; simp; omega
  have hoi : (ops.toList.take k)[i]? = some o := by rw [List.getElem?_take_of_lt hik]; simpa using ho
  obtain ⟨p, hp⟩ : ∃ p, ps[i]? = some p := ⟨ps[i], List.getElem?_eq_getElem (by omega)⟩
  have hstep := g2 i o p hoi hp
  have hiL : i < L.size := by rw [hL]; omega
  -- the check, taken apart
  have hchk : ∀ j q, ps[j]? = some q → q.ds = true → (i = j ∨ o.dst ≠ some q.d) ∧ (q.d ∈ tmpsOf ops o → (j < i ∧ L.getD j false = true) ∨ (i < j ∧ L.getD j false = false)) := by
    intro j q hq hqs
    have hjk : j < k := by rw [← hlen]; exact (List.getElem?_eq_some_iff.1 hq).1
    obtain ⟨oj, hoj⟩ : ∃ oj, ops[j]? = some oj := ⟨ops[j]'(by omega), Array.getElem?_eq_getElem (by omega)⟩
    have hsj := g2 j oj q (by rw [List.getElem?_take_of_lt hjk]; simpa using hoj) hq
    have hdj : oj.dst = some q.d := by
      unfold PStep at hsj
      cases hqst : q.st with
      | none => rw [hqst] at hsj; exact hsj.2.1
      | some x => rw [hqst] at hsj; have h1 := hsj.1; rw [hqs] at h1; exact h1
    have hds : (ops.toList.map (·.dst)).getD j none = some q.d := by
      simp only [List.getD_eq_getElem?_getD, List.getElem?_map, Array.getElem?_toList, hoj, Option.map_some, Option.getD_some, hdj]
    have := List.all_eq_true.1 (hok i o hik ho) j (List.mem_range.2 hjk)
    rw [hds] at this
    simp only [Bool.and_eq_true, Bool.or_eq_true, beq_iff_eq, bne_iff_ne, Bool.not_eq_true', decide_eq_true_eq] at this
    obtain ⟨h1, h2⟩ := this
    refine ⟨h1, fun hm => ?_⟩
    rcases h2 with (h2 | ⟨h2, h3⟩) | ⟨h2, h3⟩
    · exact absurd hm (by simpa using h2)
    · exact .inl ⟨h2, prec_closed hcl 9 i j h3 (fun o' ho' => by rw [ho] at ho'; cases ho'; exact hready)⟩
    · refine .inr ⟨h2, ?_⟩
      cases hLj : L.getD j false with
      | false => rfl
      | true => have := prec_closed hcl 9 j i h3 (hcl j hLj); rw [hnl] at this; cases this
  -- what the operation reads holds
  have hread : ∀ t, t ∈ tmpsOf ops o → ∀ s, look (finE e0 (ps.take i)) t = some s → ∃ x, a.tmps[t]? = some x ∧ RepS O H w x s := by
    intro t ht s hs
    rcases look_finE hs with ⟨j, q, hq, hqs, h1, h2⟩ | ⟨h1, h2⟩
    · have hji : j < i := by have := (List.getElem?_eq_some_iff.1 hq).1; simp at this; omega
      rw [List.getElem?_take_of_lt hji] at hq
      subst h1; subst h2
      exact hst.new j q hq hqs (((hchk j q hq hqs).2 ht).elim (fun h => h.2) (fun h => by have := h.1; omega))
    · refine hst.old t s h2 fun j q hj hqs he => ?_
      rcases (hchk j q hj hqs).2 (by rw [he]; exact ht) with this | this
      case inr => exact this.2
      exfalso
      exact h1 q (List.mem_take_iff_getElem.2 ⟨j, by have := (List.getElem?_eq_some_iff.1 hj).1; omega, (List.getElem?_eq_some_iff.1 hj).2⟩) hqs he
  have hslots : Slots a O H w (finE e0 (ps.take i)) o.op.operands := by
    intro x hx s hs
    cases x with
    | tmp t =>
      obtain ⟨x, hx', hr⟩ := hread t (List.mem_append_left _ (List.mem_filterMap.2 ⟨.tmp t, by simpa using hx, rfl⟩)) s hs
      simpa [Act.eval, Array.getD_eq_getD_getElem?, hx'] using hr
    | const v => simp only [opS, Option.some.injEq] at hs; subst hs; exact .d _ _ (.v v)
    | global g => cases hs
    | func f =>
      simp only [opS, Option.some.injEq] at hs; subst hs
      exact .f f [] [] [] [] rfl rfl (fun i x s h => by simp at h) (fun i x s h => by simp at h)
  cases hps : p.st with
  | some x =>
    obtain ⟨h, m, m'⟩ := x
    simp only [PStep, hps] at hstep
    obtain ⟨hd, hg, hmo, hlm, hsem⟩ := hstep
    obtain ⟨hin, hoth⟩ := stOk_get hso hp hps
    have hold := hst.sto i p h m m' hp hps
    rw [if_neg (by simp [hnl])] at hold
    unfold wpOp
    simp only [ho]
    have hw : Region.wanted o (yielded ops a.tmps) = true := by unfold Region.wanted; rw [hg]
    rw [if_pos hw]
    refine .inl (Oper.wp_false (hsem O H a w hst.bl.size hslots hold K fun w' x h1 h2 h3 h4 => ?_) Q)
    have hsz := hst.bl.size
    have hdist' : ∀ j q, ps[j]? = some q → q.ds = true → j ≠ i → o.dst ≠ some q.d := fun j q hq hqs hne => ((hchk j q hq hqs).1).elim (fun h => (hne h.symm).elim) id
    have hputd : (a.put o.dst x).defers = a.defers := by unfold Act.put; split <;> rfl
    have hputs : (a.put o.dst x).tmps.size = a.tmps.size := by unfold Act.put; split <;> simp
    have hput : ∀ n, o.dst ≠ some n → (a.put o.dst x).tmps[n]? = a.tmps[n]? := fun n hn => by
      unfold Act.put
      cases hdd : o.dst with
      | none => rfl
      | some d => simp only; rw [Array.getElem?_setIfInBounds_ne (fun e => hn (by rw [hdd, e]))]
    refine hK O H _ _ ⟨by rw [hputd]; exact hst.df, by rw [hputs]; exact hst.sz, hst.bl.trans (h2.mono (Nat.le_refl _)), hst.lab, fun n s hs hne => ?_, fun j q hq hqs hj => ?_, fun h' mm hm' => ?_, fun j q h' mm hq hj hqs hmo' => ?_, fun j q h' mm mm' hq hqs => ?_⟩
    · obtain ⟨y, hy, hr'⟩ := hst.old n s hs (fun j q hj hqs he => by
        have h := hne j q hj hqs he
        rw [getD_set hiL] at h
        split at h
        · cases h
        · exact h)
      refine ⟨y, ?_, hr'.mono0 h1⟩
      rw [hput n (fun e => ?_)]; exact hy
      rw [hd] at e
      cases hpd : p.ds with
      | true => rw [hpd] at e; have h := hne i p hp hpd (by simpa using e); rw [getD_set hiL, if_pos rfl] at h; cases h
      | false => rw [hpd] at e; cases e
    · rw [getD_set hiL] at hj
      by_cases hji : j = i
      · subst hji
        rw [hp] at hq; cases hq
        refine ⟨x, ?_, h4⟩
        rw [hd, hqs]
        simp [Act.put, hst.sz, hN p (List.mem_of_getElem? hp) hqs]
      · rw [if_neg hji] at hj
        obtain ⟨y, hy, hr'⟩ := hst.new j q hq hqs hj
        exact ⟨y, by rw [hput _ (hdist' j q hq hqs hji)]; exact hy, hr'.mono0 h1⟩
    · obtain ⟨_, hne⟩ := look_dropM hm'
      exact (hst.mold h' mm hm').mono h1 (by intro e; cases e; exact hne hin) (by simp) 0 (fun h he => by cases he) (.inl rfl)
    · rw [getD_set hiL] at hj
      by_cases hji : j = i
      · subst hji; rw [hp] at hq; cases hq; rw [hps] at hqs; cases hqs
      · rw [if_neg hji] at hj
        exact (hst.mnew j q h' mm hq hj hqs hmo').mono h1 (by intro e; cases e; exact (hoth j q hq hji).2 _ _ hmo' rfl) (by simp) 0 (fun h he => by cases he) (.inl rfl)
    · rw [getD_set hiL]
      by_cases hji : j = i
      · subst hji
        rw [hp] at hq; cases hq
        rw [hps] at hqs; cases hqs
        rw [if_pos rfl]
        rw [if_pos rfl]; exact h3
      · rw [if_neg hji]
        exact (hst.sto j q h' mm mm' hq hqs).mono h1 (by intro e; cases e; exact (hoth j q hq hji).1 _ _ _ hqs rfl) (by simp) 0 (fun h he => by cases he) (.inl rfl)
  | none =>
  simp only [PStep, hps] at hstep
  obtain ⟨hpd, hd, hstep⟩ := hstep
  have hdist : ∀ j q, ps[j]? = some q → q.ds = true → j ≠ i → q.d ≠ p.d := fun j q hq hqs hne he => ((hchk j q hq hqs).1).elim (fun h => hne h.symm) (fun h => h (by rw [hd, he]))
  have hmet : ∀ b, Met ops (finE e0 (ps.take i)) o b → Region.wanted o (yielded ops a.tmps) = b := by
    intro b hb
    unfold Met at hb
    unfold Region.wanted
    cases hg : o.guard with
    | none => rw [hg] at hb; simp [hb]
    | some gg =>
      obtain ⟨j, want⟩ := gg
      rw [hg] at hb
      obtain ⟨oj, d, c, h1, h2, h3, rfl⟩ := hb
      obtain ⟨x, hx, hr⟩ := hread d (List.mem_append_right _ (by simp [hg, h1, h2])) _ h3
      have hxb : x = c := by
        cases hr with
        | d _ _ q => cases q with
          | v _ => rfl
      subst hxb
      have := wanted_isB hg h1 h2 hx
      simpa [Region.wanted, hg] using this
  have hpN := hN p (List.mem_of_getElem? hp) hpd
  have hds : ∀ (j : Nat) (q : PO), ps[j]? = some q → q.st = none → q.ds = true := fun j q hq hqs => by
    have hjk : j < k := by rw [← hlen]; exact (List.getElem?_eq_some_iff.1 hq).1
    obtain ⟨oj, hoj⟩ : ∃ oj, ops[j]? = some oj := ⟨ops[j]'(by omega), Array.getElem?_eq_getElem (by omega)⟩
    have hsj := g2 j oj q (by rw [List.getElem?_take_of_lt hjk]; simpa using hoj) hq
    simp only [PStep, hqs] at hsj
    exact hsj.1
  -- what is kept
  have keepIt : ∀ (O' : Nat → Nat) (H' : Nat → Value) (w' : World) (x : Value), Keep none (p.mo.map (·.1)) O H w O' H' w' → Below w.heap.size w w' → RepS O' H' w' x p.s → (∀ h m, p.mo = some (h, m) → MHold O' H' w0.heap.size w' h m) →
      PSt N w0 O0 e0 hs M0 ps (L.setIfInBounds i true) O' H' (a.put (some p.d) x) w' := by
    intro O' H' w' x hk' hb hr hm
    have hsz := hst.bl.size
    have hokH : ∀ h, p.mo.map (·.1) = some h → (∀ n s, look e0 n = some s → S.ok 9 h s = true) ∧ (∀ h' m, look M0 h' = some m → h' ≠ h ∧ Mo.ok 9 h m = true) ∧
        ∀ j q, ps[j]? = some q → j ≠ i → q.ds = true → (S.ok 9 h q.s = true ∧ ∀ h' m', q.mo = some (h', m') → h' ≠ h ∧ Mo.ok 9 h m' = true) := by
      intro h he
      obtain ⟨⟨h1, m1⟩, hmo, rfl⟩ := Option.map_eq_some_iff.1 he
      unfold handOk at hh
      have := List.all_eq_true.1 hh p (List.mem_of_getElem? hp)
      simp only [hmo, Bool.and_eq_true, List.all_eq_true] at this
      obtain ⟨⟨q1, q2⟩, q3⟩ := this
      refine ⟨fun n s hs => q1 (n, s) (look_mem hs), fun h' m hm => ?_, fun j q hq hne hqs => ?_⟩
      · have := q2 (h', m) (look_mem hm)
        simp only [Bool.not_eq_true'] at this
        exact ⟨fun he => by rw [he] at this; simp at this, this.2⟩
      · have := q3 q (List.mem_of_getElem? hq)
        simp only [Bool.or_eq_true, Bool.and_eq_true] at this
        rcases this with ⟨h, _⟩ | ⟨⟨h, h2⟩, _⟩
        · exact absurd (Nat.eq_of_beq_eq_true h) (hdist j q hq hqs hne)
        · refine ⟨h, fun h' m' hmo' => ?_⟩
          rw [hmo'] at h2
          simp only [Bool.and_eq_true, Bool.not_eq_true'] at h2
          exact ⟨fun he => by rw [he] at h2; simp at h2, h2.2⟩
    have hokS : ∀ h, p.mo.map (·.1) = some h → ∀ (j : Nat) (q : PO) (h' : Nat) (m m' : Mo), ps[j]? = some q → q.st = some (h', m, m') → h' ≠ h ∧ Mo.ok 9 h m = true ∧ Mo.ok 9 h m' = true := by
      intro h he j q h' m m' hq hqs
      obtain ⟨⟨h1, m1⟩, hmo, rfl⟩ := Option.map_eq_some_iff.1 he
      unfold handOk at hh
      have := List.all_eq_true.1 hh p (List.mem_of_getElem? hp)
      simp only [hmo, Bool.and_eq_true, List.all_eq_true] at this
      have := this.2 q (List.mem_of_getElem? hq)
      simp only [Bool.or_eq_true, Bool.and_eq_true] at this
      rcases this with ⟨_, h⟩ | ⟨_, h⟩
      · rw [hqs] at h; cases h
      · rw [hqs] at h
        simp only [Bool.and_eq_true, Bool.not_eq_true'] at h
        exact ⟨fun he => by rw [he] at h; simp at h, h.1.2, h.2⟩
    have n9 : p.mo.map (·.1) = none ∨ 0 < 9 := .inr (by omega)
    refine ⟨hst.df, by simp [Act.put, hst.sz], hst.bl.trans (hb.mono hsz), fun b hb' => (hk'.lab b (by omega)).trans (hst.lab b hb'), fun n s hs hne => ?_, fun j q hq hqs hj => ?_, fun h m hm' => ?_, fun j q h m hq hj hqs hmo => ?_, fun j q h m m' hq hqs => ?_⟩
    · obtain ⟨y, hy, hr'⟩ := hst.old n s hs (fun j q hj hqs he => by
        have h := hne j q hj hqs he
        rw [getD_set hiL] at h
        split at h
        · cases h
        · exact h)
      refine ⟨y, ?_, hr'.mono hk' 9 (fun h he => (hokH h he).1 n s hs) n9⟩
      simp only [Act.put]; rw [Array.getElem?_setIfInBounds_ne (fun he => by have h := hne i p hp hpd he; rw [getD_set hiL, if_pos rfl] at h; cases h)]; exact hy
    · rw [getD_set hiL] at hj
      by_cases hji : j = i
      · subst hji
        rw [hp] at hq; cases hq
        exact ⟨x, by simp [Act.put, hst.sz, hpN], hr⟩
      · rw [if_neg hji] at hj
        obtain ⟨y, hy, hr'⟩ := hst.new j q hq hqs hj
        refine ⟨y, ?_, hr'.mono hk' 9 (fun h he => ((hokH h he).2.2 j q hq hji hqs).1) n9⟩
        simp only [Act.put]; rw [Array.getElem?_setIfInBounds_ne (fun he => hdist j q hq hqs hji he.symm)]; exact hy
    · obtain ⟨hm1, _⟩ := look_dropM hm'
      exact (hst.mold h m hm').mono hk' (by simp) (fun he => ((hokH h he).2.1 h m hm1).1 rfl) 9 (fun h' he => ((hokH h' he).2.1 h m hm1).2) n9
    · rw [getD_set hiL] at hj
      by_cases hji : j = i
      · subst hji
        rw [hp] at hq; cases hq
        exact hm h m hmo
      · rw [if_neg hji] at hj
        have hqd := hds j q hq hqs
        exact (hst.mnew j q h m hq hj hqs hmo).mono hk' (by simp) (fun he => (((hokH h he).2.2 j q hq hji hqd).2 h m hmo).1 rfl) 9 (fun h' he => (((hokH h' he).2.2 j q hq hji hqd).2 h m hmo).2) n9
    · have hji : j ≠ i := fun e => by subst e; rw [hp] at hq; cases hq; rw [hps] at hqs; cases hqs
      rw [getD_set hiL, if_neg hji]
      have h0 := hst.sto j q h m m' hq hqs
      refine h0.mono hk' (by simp) (fun he => (hokS h he j q h m m' hq hqs).1 rfl) 9 (fun h' he => ?_) n9
      have := hokS h' he j q h m m' hq hqs
      split
      · exact this.2.2
      · exact this.2.1
  unfold wpOp
  simp only [ho]
  rcases hstep with ⟨hm, hsem⟩ | ⟨hm, hu, hn⟩
  · rw [if_pos (hmet true hm)]
    refine .inl (Oper.wp_false (hsem O H a w hst.bl.size hslots hst.mold K fun O' H' w' x h1 h2 h3 h4 => ?_) Q)
    rw [hd]
    exact hK O' H' _ _ (keepIt O' H' w' x h1 h2 h3 h4)
  · rw [if_neg (by rw [hmet false hm]; simp)]
    rw [hd]
    refine hK O H _ _ (keepIt O H w undef ?_ (.refl _ _) (by rw [hu]; exact .d _ _ (.v _)) (fun h m he => by rw [hn] at he; cases he))
    rw [hn]; exact .refl _ _ _ _ _
end
end Go.Eng
