/- The engine and the walks that this claim uses, part 9. Written by prune.py out of our own texts. -/
import Derived.Test.YtlidcpmdgceboaaC8
import Derived.Shelf.SlGeneric
import Derived.Ground.SlgmProg
section
/- Walks, written by gen.py out of hints. -/





set_option linter.unusedVariables false
set_option linter.unusedSimpArgs false
namespace Go.Proofs.Ytlidcpmdgceboaa
open Go.Eng
set_option maxRecDepth 10000
set_option maxHeartbeats 1000000

theorem counting_Bound_does (t : Tsk) (o : Option (Int × Int)) (hS : cpF t = (0, 0) → SolR (cpA t) o) : Does Try.prog false 10 [tskS t] (.t [flt (bdR t o), flt (cpF t)]) := by
 refine Does.of_body Try.func10 rfl rfl (by simp) Try.call10 (fun w0 O0 => ?_); refine .lenG (n := 0) (i := 1) rfl rfl (fun len0_1 => ?_); refine .lenG (n := 0) (i := 2) rfl rfl (fun len0_2 => ?_); refine .lenG (n := 0) (i := 3) rfl rfl (fun len0_3 => ?_); refine .seq ?_; refine .region ?_; refine .semM (OpSem.box 1 rfl rfl rfl rfl) rfl rfl (by decide) ?_; refine .semM (OpSem.alloc 2 rfl zc28 rfl) rfl rfl (by decide) ?_; refine .semM (OpSem.alloc 3 rfl zc30 rfl) rfl rfl (by decide) ?_; refine .z ?_; refine .x (OpSem.loadbN rfl rfl rfl vs25 (by first | decide | simp)) ?_; refine .x (OpSem.call0 (counting_Program_does t) rfl rfl rfl rfl (Les.refl _)) ?_; refine .m ?_; refine .x (OpSem.extract rfl rfl rfl) ?_; refine .x (OpSem.extract rfl rfl rfl) ?_; refine .semM (OpSem.alloc 4 rfl zc39 rfl) rfl rfl (by decide) ?_; refine .semM (OpSem.alloc 5 rfl zc30 rfl) rfl rfl (by decide) ?_; refine .sb vs39 ?_; refine .sb vs30 ?_; refine .sq ?_; refine .seq ?_; refine .seq ?_; refine .region ?_; refine .x (OpSem.loadbN rfl rfl rfl vs30 (by first | decide | simp)) ?_; refine .x (OpSem.build rfl rfl pl30 zc30 rfl rfl) ?_; refine .x (OpSem.neS2 rfl rfl rfl io30) ?_; refine .sq ?_; refine .cond rfl (fun c14 => ?_) (fun c14 => ?_)
 ·have hne : cpF t ≠ (0, 0) := fun h => by simp [h] at c14
  refine .seq ?_; refine PC.start [2] ?_; refine .x (OpSem.build rfl rfl pl28 zc28 rfl rfl) ?_; refine .x (OpSem.loadbN rfl rfl rfl vs30 (by first | decide | simp)) ?_; refine .storeb 100002 rfl rfl rfl rfl rfl rfl rfl vs28 (by first | decide | simp) ?_; refine .dn mixed ?_; refine .sb vs30 ?_; refine .sq ?_; refine .ret ?_; refine .pass_ret ?_; exact .ret rfl (.cellN rfl rfl vs28 <| .cellN rfl rfl vs30 <| .nil) rfl (Le.t (.cons (Le.flt (bd_1 hne)) <| .cons (.refl _) <| .nil))
 ·have h0 : cpF t = (0, 0) := pair0 (by simpa using c14)
  have hin := (hS h0).in
  refine .skip ?_; refine .z ?_; refine .x (OpSem.loadbN rfl rfl rfl vs39 (by first | decide | simp)) ?_; refine .x (OpSem.call0 (linear_Solve_does (cpR t) (by rw [← cpR_0 h0]; exact cpA_ok h0) o (by rw [← cpR_0 h0]; exact hS h0)) rfl rfl rfl rfl (Les.refl _)) ?_; refine .m ?_; refine .x (OpSem.extract rfl rfl rfl) ?_; refine .x (OpSem.extract rfl rfl rfl) ?_; refine .semM (OpSem.alloc 6 rfl zc64 rfl) rfl rfl (by decide) ?_; refine .sb vs64 ?_; refine .sb vs30 ?_; refine .sq ?_; refine .seq ?_; refine .block ?_; refine .seq ?_; refine .region ?_; refine .x (OpSem.loadbN rfl rfl rfl vs30 (by first | decide | simp)) ?_; refine .x (OpSem.build rfl rfl pl30 zc30 rfl rfl) ?_; refine .x (OpSem.neS2 rfl rfl rfl io30) ?_; refine .a ?_; refine .sq ?_; refine .cond rfl (fun c22 => ?_) (fun c22 => ?_)
  ·exfalso; simp at c22
  ·refine .seq ?_; refine .region ?_; refine .x (.f fo64_0) ?_; refine .x (.l vs3) ?_; refine .x (.b bneq) ?_; refine .a ?_; refine .sq ?_; refine .cond rfl (fun c28 => ?_) (fun c28 => ?_)
   ·have h2 : solT o ≠ 1 := by simpa using c28
    refine .seq ?_; refine PC.start [2] ?_; refine .x (OpSem.build rfl rfl pl28 zc28 rfl rfl) ?_; refine .x (OpSem.loadbN rfl rfl rfl vs30 (by first | decide | simp)) ?_; refine .storeb 100002 rfl rfl rfl rfl rfl rfl rfl vs28 (by first | decide | simp) ?_; refine .dn mixed ?_; refine .sb vs30 ?_; refine .sq ?_; refine .ret ?_; refine .block_ret ?_; refine .pass_ret ?_; exact .ret rfl (.cellN rfl rfl vs28 <| .cellN rfl rfl vs30 <| .nil) rfl (Le.t (.cons (Le.flt (bd_2 h0 h2)) <| .cons (Le.flt h0.symm) <| .nil))
   ·have h2 : solT o = 1 := by simpa using c28
    refine .skip ?_; refine .block_normal ?_; refine .seq ?_; refine .seq ?_; refine PC.start [2] ?_; refine .x (.f fo64_1) ?_; refine .x (.f fo28_0) ?_; refine .x (.l vs3) ?_; refine .x (OpSem.neg rfl rfl (neg_in (by omega) (by omega))) ?_; refine .x (.f fo64_1) ?_; refine .x (.f fo28_1) ?_; refine .x (.l vs3) ?_; refine .x (OpSem.build rfl rfl pl28 zc28 rfl rfl) ?_; refine .x (OpSem.loadbN rfl rfl rfl vs30 (by first | decide | simp)) ?_; refine .storeb 100009 rfl rfl rfl rfl rfl rfl rfl vs28 (by first | decide | simp) ?_; refine .dn mixed ?_; refine .sb vs30 ?_; refine .sq ?_; refine .ret ?_; exact .ret rfl (.cellN rfl rfl vs28 <| .cellN rfl rfl vs30 <| .nil) rfl (Le.t (.cons (Le.flt (bd_0 h0 h2)) <| .cons (Le.flt h0.symm) <| .nil))

theorem law_countingExample_does  : Does Try.prog false 9 [] (Bo true) := by
 refine Does.of_body Try.func9 rfl rfl (by simp) Try.call9 (fun w0 O0 => ?_); refine .seq ?_; refine .region ?_; refine .a ?_; refine .z ?_; refine .x (OpSem.le (s' := .d (ints [0])) (.bs es22 ze22) (Le.of_eq rfl)) ?_; refine .x (OpSem.le (s' := .d (ints [0])) (.bs es22 ze22) (Le.of_eq rfl)) ?_; refine .x (OpSem.le (s' := sopS ⟨[], [0], [], 2⟩) (OpSem.build rfl rfl pl35 zc35 rfl rfl) (Le.g (.cons (Le.nil 1) <| .cons (.refl _) <| .cons (Le.nil 1) <| .cons (.refl _) <| .nil))) ?_; refine .x (OpSem.le (s' := .d (sopsD exT.ops)) (.bs es23 ze23) (Le.of_eq rfl)) ?_; refine .x (OpSem.le (s' := tskS exT) (OpSem.build rfl rfl pl25 zc25 rfl rfl) (Le.g (.cons (.refl _) <| .cons (Le.nil 1) <| .cons (.refl _) <| .cons (.refl _) <| .nil))) ?_; refine .semM (OpSem.alloc 1 rfl zc25 rfl) rfl rfl (by decide) ?_; refine .sb vs25 ?_; refine .z ?_; refine .x (OpSem.loadbN rfl rfl rfl vs25 (by first | decide | simp)) ?_; refine .x (OpSem.call0 (counting_Program_does exT) rfl rfl rfl rfl (Les.refl _)) ?_; refine .m ?_; refine .x (OpSem.extract rfl rfl rfl) ?_; refine .x (OpSem.extract rfl rfl rfl) ?_; refine .semM (OpSem.alloc 2 rfl zc39 rfl) rfl rfl (by decide) ?_; refine .semM (OpSem.alloc 3 rfl zc30 rfl) rfl rfl (by decide) ?_; refine .sb vs39 ?_; refine .sb vs30 ?_; refine .z ?_; refine .x (OpSem.loadbN rfl rfl rfl vs25 (by first | decide | simp)) ?_; refine .x (OpSem.call0 (counting_Bound_does exT (some (-2, 1)) (fun _ => exT_s)) rfl rfl rfl rfl (Les.refl _)) ?_; refine .m ?_; refine .x (OpSem.extract rfl rfl rfl) ?_; refine .x (OpSem.extract rfl rfl rfl) ?_; refine .semM (OpSem.alloc 4 rfl zc28 rfl) rfl rfl (by decide) ?_; refine .semM (OpSem.alloc 5 rfl zc30 rfl) rfl rfl (by decide) ?_; refine .sb vs28 ?_; refine .sb vs30 ?_; refine .z ?_; refine .x (OpSem.loadbN rfl rfl rfl vs25 (by first | decide | simp)) ?_; refine .x (OpSem.le (s' := .d (ints [0, 0])) (.bs es22 ze22) (Le.of_eq rfl)) ?_; refine .x (OpSem.call0 (counting_Counts_does exT [0, 0]) rfl rfl rfl rfl (Les.refl _)) ?_; refine .m ?_; refine .x (OpSem.extract rfl rfl rfl) ?_; refine .x (OpSem.extract rfl rfl rfl) ?_; refine .semM (OpSem.alloc 7 rfl zc30 rfl) rfl rfl (by decide) ?_; refine .a ?_; refine .sb vs30 ?_; refine .z ?_; refine .x (.f fo30_0) ?_; refine .x (.l vs3) ?_; refine .x (.b beql) ?_; refine .m ?_; refine .gT rfl rfl rfl rfl (by rw [exT_c]; rfl) ?_; refine .x (.f fo30_0) ?_; refine .gT rfl rfl rfl rfl (by rw [exT_c]; rfl) ?_; refine .x (.l vs3) ?_; refine .gT rfl rfl rfl rfl (by rw [exT_c]; rfl) ?_; refine .x (.b beql) ?_; refine .x (OpSem.pickT rfl rfl (by rw [exT_c]; rfl) rfl) ?_; refine .m ?_; refine .gT rfl rfl rfl rfl (by rw [exT_c]; rfl) ?_; refine .x (.f fo30_0) ?_; refine .gT rfl rfl rfl rfl (by rw [exT_c]; rfl) ?_; refine .x (.l vs3) ?_; refine .gT rfl rfl rfl rfl (by rw [exT_c]; rfl) ?_; refine .x (.b beql) ?_; refine .x (OpSem.pickT rfl rfl (by rw [exT_c]; rfl) rfl) ?_; refine .m ?_; refine .gT rfl rfl rfl rfl (by rw [exT_n.2]; rfl) ?_; refine .x (.f fo39_0) ?_; refine .gT rfl rfl rfl rfl (by rw [exT_n.2]; rfl) ?_
 refine .x (.l vs37) ?_; refine .gT rfl rfl rfl rfl (by rw [exT_n.2]; rfl) ?_; refine .x (OpSem.lenL rfl rfl es37) ?_; refine .gT rfl rfl rfl rfl (by rw [exT_n.2]; rfl) ?_; refine .x (.b beql) ?_; refine .x (OpSem.pickT rfl rfl (by rw [exT_n.2]; rfl) rfl) ?_; refine .m ?_; refine .gT rfl rfl rfl rfl (by rw [exT_r]; rfl) ?_; refine .x (.f fo39_2) ?_; refine .gT rfl rfl rfl rfl (by rw [exT_r]; rfl) ?_; refine .x (.l vs22) ?_; refine .gT rfl rfl rfl rfl (by rw [exT_r]; rfl) ?_; refine .x (OpSem.le (s' := .d (ints [-2])) (.bs es22 ze22) (Le.of_eq rfl)) ?_; refine .gT rfl rfl rfl rfl (by rw [exT_r]; rfl) ?_; refine .x (OpSem.call0 (R_Ints_does (cpR exT).obj [-2]) rfl rfl rfl rfl (Les.refl _)) ?_; refine .x (OpSem.pickT rfl rfl (by rw [exT_r]; rfl) rfl) ?_; refine .m ?_; refine .gT rfl rfl rfl rfl (by rw [exT_r]; rfl) ?_; refine .x (OpSem.loadbN rfl rfl rfl vs28 (by first | decide | simp)) ?_; refine .gT rfl rfl rfl rfl (by rw [exT_r]; rfl) ?_; refine .x (OpSem.build rfl rfl pl28 zc28 rfl rfl) ?_; refine .gT rfl rfl rfl rfl (by rw [exT_r]; rfl) ?_; refine .x (OpSem.eqS2 rfl rfl rfl io28) ?_; refine .x (OpSem.pickT rfl rfl (by rw [exT_r]; rfl) rfl) ?_; refine .m ?_; refine .gT rfl rfl rfl rfl (by rw [exT_bd]; rfl) ?_; refine .m ?_; refine .gT rfl rfl rfl rfl (by rw [exT_bd]; rfl) ?_; refine .x (OpSem.le (s' := .d (ints [2])) (.bs es22 ze22) (Le.of_eq rfl)) ?_; refine .gT rfl rfl rfl rfl (by rw [exT_bd]; rfl) ?_; refine .x (OpSem.call0 (R_Ints_does (cntR exT [0, 0]) [2]) rfl rfl rfl rfl (Les.refl _)) ?_; refine .x (OpSem.pickT rfl rfl (by rw [exT_bd]; rfl) rfl) ?_; refine .a ?_; refine .sq ?_; refine .ret ?_; exact .ret rfl (.tmp rfl <| .nil) rfl (Le.bo (by rw [exT_n.1]; rfl))

end Go.Proofs.Ytlidcpmdgceboaa
end

section
/- Determinants of integer vectors, by expansion along rows. -/

set_option linter.unusedSimpArgs false
set_option linter.unnecessarySimpa false
set_option linter.unusedVariables false
set_option linter.unusedSectionVars false
namespace Go.Eng
abbrev Vc := Nat → Int
def alt {α β : Type} (f : α → List α → Int) : List α → Int
  | [] => 0
  | x :: l => f x l - alt (β := β) (fun y l' => f y (x :: l')) l
abbrev al (f : Vc → List Vc → Int) (l : List Vc) : Int := alt (β := Unit) f l
theorem al_nil {f : Vc → List Vc → Int} : al f [] = 0 := rfl
theorem al_cons {f : Vc → List Vc → Int} {x : Vc} {l : List Vc} : al f (x :: l) = f x l - al (fun y l' => f y (x :: l')) l := rfl
theorem al_congr {f g : Vc → List Vc → Int} (h : ∀ x l, f x l = g x l) : ∀ {l : List Vc}, al f l = al g l := by
  have : f = g := funext fun x => funext fun l => h x l
  intro l; rw [this]
theorem al_lin {a b : Int} : ∀ {l : List Vc} {f g : Vc → List Vc → Int}, al (fun x l => a * f x l + b * g x l) l = a * al f l + b * al g l
  | [], f, g => by simp [al_nil]
  | x :: l, f, g => by
    rw [al_cons, al_cons, al_cons, al_lin]
    simp only [Int.mul_sub]; omega
theorem al_zero : ∀ {l : List Vc}, al (fun _ _ => 0) l = 0
  | [] => rfl
  | x :: l => by rw [al_cons, al_zero]; rfl
theorem al_mul {a : Int} {f : Vc → List Vc → Int} {l : List Vc} : al (fun x l => a * f x l) l = a * al f l := by
  have := al_lin (a := a) (b := 0) (l := l) (f := f) (g := f)
  have e : al (fun x l => a * f x l) l = al (fun x l => a * f x l + 0 * f x l) l := al_congr fun x l => by omega
  rw [e, this]; omega

def lc (a b : Int) (x y : Vc) : Vc := fun r => a * x r + b * y r
theorem al_twice : ∀ {l : List Vc} (g : Vc → Vc → List Vc → Int), al (fun x l => al (fun y l' => g x y l') l) l = -(al (fun x l => al (fun y l' => g y x l') l) l)
  | [], g => by simp [al_nil]
  | x :: l, g => by
    rw [al_cons, al_cons]
    have e1 : al (fun y l' => al (fun z l'' => g y z l'') (x :: l')) l = al (fun y l' => g y x l') l - al (fun y l' => al (fun z l'' => g y z (x :: l'')) l') l := by
      have := al_lin (a := 1) (b := -1) (l := l) (f := fun y l' => g y x l') (g := fun y l' => al (fun z l'' => g y z (x :: l'')) l')
      rw [show al (fun y l' => g y x l') l - al (fun y l' => al (fun z l'' => g y z (x :: l'')) l') l = 1 * al (fun y l' => g y x l') l + -1 * al (fun y l' => al (fun z l'' => g y z (x :: l'')) l') l from by omega, ← this]
      exact al_congr fun y l' => by rw [al_cons]; omega
    have e2 : al (fun y l' => al (fun z l'' => g z y l'') (x :: l')) l = al (fun y l' => g x y l') l - al (fun y l' => al (fun z l'' => g z y (x :: l'')) l') l := by
      have := al_lin (a := 1) (b := -1) (l := l) (f := fun y l' => g x y l') (g := fun y l' => al (fun z l'' => g z y (x :: l'')) l')
      rw [show al (fun y l' => g x y l') l - al (fun y l' => al (fun z l'' => g z y (x :: l'')) l') l = 1 * al (fun y l' => g x y l') l + -1 * al (fun y l' => al (fun z l'' => g z y (x :: l'')) l') l from by omega, ← this]
      exact al_congr fun y l' => by rw [al_cons]; omega
    rw [e1, e2]
    have := al_twice (l := l) (fun y z l'' => g y z (x :: l''))
    omega

/-- The determinant of columns at some rows. -/
def Dt : List Nat → List Vc → Int
  | [], _ => 1
  | r :: rs, l => al (fun y l' => y r * Dt rs l') l
theorem Dt_Lin : ∀ (rs : List Nat) (pre post : List Vc) (a b : Int) (x y : Vc), (pre ++ x :: post).length = rs.length → Dt rs (pre ++ lc a b x y :: post) = a * Dt rs (pre ++ x :: post) + b * Dt rs (pre ++ y :: post) := by
  -- linear at every list, once the length is not looked at: the empty row list is the exception
  intro rs
  induction rs with
  | nil => intro pre post a b x y h; simp at h
  | cons r rs ih =>
    intro pre post a b x y hlen
    cases rs with
    | nil =>
      have h1 : pre = [] ∧ post = [] := by
        simp only [List.length_append, List.length_cons, List.length_nil] at hlen
        exact ⟨List.eq_nil_of_length_eq_zero (by omega), List.eq_nil_of_length_eq_zero (by omega)⟩
      obtain ⟨rfl, rfl⟩ := h1
      simp [Dt, al_cons, al_nil, lc]
    | cons r2 rs =>
      -- all places, by the places of the lists that are left
      have key : ∀ (pre : List Vc) (f : Vc → List Vc → Int) (n : Nat) (h1 : ∀ a b x y l, f (lc a b x y) l = a * f x l + b * f y l)
          (h2 : ∀ z pre post a b x y, (pre ++ x :: post).length = n → f z (pre ++ lc a b x y :: post) = a * f z (pre ++ x :: post) + b * f z (pre ++ y :: post)) (post : List Vc) (a b : Int) (x y : Vc), (pre ++ x :: post).length = n + 1 →
          al f (pre ++ lc a b x y :: post) = a * al f (pre ++ x :: post) + b * al f (pre ++ y :: post) := by
        intro pre
        induction pre with
        | nil =>
          intro f n h1 h2 post a b x y hl
          simp only [List.nil_append]
          rw [al_cons, al_cons, al_cons, h1]
          simp only [List.nil_append, List.length_cons] at hl
          -- the rest: each of its lists is one shorter
          have q : ∀ (l : List Vc) (f : Vc → List Vc → Int), (∀ z l', l'.length + 1 = l.length → f z (lc a b x y :: l') = a * f z (x :: l') + b * f z (y :: l')) → al (fun z l' => f z (lc a b x y :: l')) l = a * al (fun z l' => f z (x :: l')) l + b * al (fun z l' => f z (y :: l')) l := by
            intro l
            suffices hs : ∀ (l : List Vc) (u v w : Vc → List Vc → Int), (∀ z l', l'.length + 1 = l.length → u z l' = a * v z l' + b * w z l') → al u l = a * al v l + b * al w l from fun f h => hs l _ _ _ h
            intro l
            induction l with
            | nil => intro u v w _; simp [al_nil]
            | cons p l ih2 =>
              intro u v w h
              rw [al_cons, al_cons, al_cons, h p l (by simp)]
              rw [ih2 (fun z l' => u z (p :: l')) (fun z l' => v z (p :: l')) (fun z l' => w z (p :: l')) (fun z l' hl' => h z (p :: l') (by simp; omega))]
              simp only [Int.mul_sub]; omega
          rw [q post f (fun z l' hl' => h2 z [] l' a b x y (by simp; omega))]
          simp only [Int.mul_sub]; omega
        | cons p pre ih2 =>
          intro f n h1 h2 post a b x y hl
          simp only [List.cons_append] at hl ⊢
          rw [al_cons, al_cons, al_cons]
          simp only [List.length_cons] at hl
          cases n with
          | zero => simp at hl
          | succ n =>
            rw [h2 p pre post a b x y (by omega)]
            rw [ih2 (fun z l' => f z (p :: l')) n (fun a b x y l => h1 a b x y (p :: l)) (fun z pre post a b x y hl2 => h2 z (p :: pre) post a b x y (by simp only [List.cons_append, List.length_cons]; omega)) post a b x y (by omega)]
            simp only [Int.mul_sub]; omega
      exact key pre (fun y l' => y r * Dt (r2 :: rs) l') (rs.length + 1) (fun a b x y l => by simp only [lc, Int.add_mul, Int.mul_assoc]) (fun z pre post a b x y hl => by
        rw [ih pre post a b x y (by simpa using hl)]; simp only [Int.mul_add, Int.mul_left_comm]) post a b x y (by simpa using hlen)
theorem Dt_Asy : ∀ (rs : List Nat) (pre post : List Vc) (x y : Vc), (pre ++ x :: y :: post).length = rs.length → Dt rs (pre ++ x :: y :: post) = -(Dt rs (pre ++ y :: x :: post)) := by
  intro rs
  induction rs with
  | nil => intro pre post x y h; simp at h
  | cons r rs ih =>
    have key : ∀ (pre : List Vc) (f : Vc → List Vc → Int) (n : Nat) (h2 : ∀ z pre post x y, (pre ++ x :: y :: post).length = n → f z (pre ++ x :: y :: post) = -(f z (pre ++ y :: x :: post))) (post : List Vc) (x y : Vc), (pre ++ x :: y :: post).length = n + 1 →
        al f (pre ++ x :: y :: post) = -(al f (pre ++ y :: x :: post)) := by
      intro pre
      induction pre with
      | nil =>
        intro f n h2 post x y hl
        simp only [List.nil_append]
        rw [al_cons, al_cons, al_cons, al_cons]
        have q : ∀ (l : List Vc) (u v : Vc → List Vc → Int), (∀ z l', l'.length + 1 = l.length → u z l' = -(v z l')) → al u l = -(al v l) := by
          intro l
          induction l with
          | nil => intro u v _; simp [al_nil]
          | cons p l ih2 =>
            intro u v h
            rw [al_cons, al_cons, h p l (by simp), ih2 (fun z l' => u z (p :: l')) (fun z l' => v z (p :: l')) (fun z l' hl' => h z (p :: l') (by simp; omega))]
            omega
        rw [q post (fun z l' => f z (x :: y :: l')) (fun z l' => f z (y :: x :: l')) (fun z l' hl' => h2 z [] l' x y (by simp only [List.nil_append, List.length_cons] at hl ⊢; omega))]
        omega
      | cons p pre ih2 =>
        intro f n h2 post x y hl
        simp only [List.cons_append] at hl ⊢
        rw [al_cons, al_cons]
        simp only [List.length_cons] at hl
        cases n with
        | zero => simp at hl
        | succ n =>
          rw [h2 p pre post x y (by omega)]
          rw [ih2 (fun z l' => f z (p :: l')) n (fun z pre post x y hl2 => h2 z (p :: pre) post x y (by simp only [List.cons_append, List.length_cons]; omega)) post x y (by omega)]
          omega
    intro pre post x y hlen
    refine key pre (fun y l' => y r * Dt rs l') rs.length (fun z pre post x y hl => ?_) post x y (by simpa using hlen)
    rw [ih pre post x y hl, Int.mul_neg]
theorem Dt_rows {r1 r2 : Nat} {rs : List Nat} {l : List Vc} : Dt (r1 :: r2 :: rs) l = -(Dt (r2 :: r1 :: rs) l) := by
  have := al_twice (l := l) (fun y z l'' => y r1 * (z r2 * Dt rs l''))
  have e1 : Dt (r1 :: r2 :: rs) l = al (fun x l => al (fun y l' => x r1 * (y r2 * Dt rs l')) l) l := by
    simp only [Dt]; exact al_congr fun x l => by rw [al_mul]
  have e2 : Dt (r2 :: r1 :: rs) l = al (fun x l => al (fun y l' => y r1 * (x r2 * Dt rs l')) l) l := by
    simp only [Dt]; refine al_congr fun x l => ?_
    rw [← al_mul]; exact al_congr fun y l' => by rw [← Int.mul_assoc, ← Int.mul_assoc, Int.mul_comm (x r2)]
  rw [e1, e2, this]
theorem Dt_same {r : Nat} : ∀ {rs : List Nat} {l : List Vc}, r ∈ rs → Dt (r :: rs) l = 0
  | s :: rs, l, h => by
    by_cases hs : s = r
    · subst hs
      have := Dt_rows (r1 := s) (r2 := s) (rs := rs) (l := l); omega
    · have hm : r ∈ rs := by
        rcases List.mem_cons.1 h with e | e
        · exact absurd e.symm hs
        · exact e
      rw [Dt_rows]
      have : Dt (s :: r :: rs) l = 0 := by
        show al (fun y l' => y s * Dt (r :: rs) l') l = 0
        rw [al_congr (g := fun _ _ => 0) (fun x l => by rw [Dt_same hm, Int.mul_zero]), al_zero]
      omega
/-- One column after the other is replaced by v. -/
def repS (h : Vc → Int) (F : List Vc → Int) (v : Vc) : List Vc → List Vc → Int
  | _, [] => 0
  | pre, x :: post => h x * F (pre ++ v :: post) + repS h F v (pre ++ [x]) post
theorem repS_pre {h : Vc → Int} {v : Vc} {x : Vc} : ∀ {post pre : List Vc} {F : List Vc → Int}, repS h (fun l => F (x :: l)) v pre post = repS h F v (x :: pre) post
  | [], _, _ => rfl
  | y :: post, pre, F => by
    simp only [repS, List.cons_append]; rw [repS_pre]
theorem al_rep {h : Vc → Int} {v : Vc} : ∀ {post : List Vc} {F : List Vc → Int}, (∀ pre x y post', (pre ++ x :: y :: post').length = post.length → F (pre ++ x :: y :: post') = -(F (pre ++ y :: x :: post'))) →
    al (fun y l' => h y * F (v :: l')) post = repS h F v [] post
  | [], F, _ => rfl
  | x :: post, F, ha => by
    rw [al_cons]
    simp only [repS, List.nil_append]
    have q : ∀ (l : List Vc) (u w : Vc → List Vc → Int), (∀ z l', l'.length + 1 = l.length → u z l' = -(w z l')) → al u l = -(al w l) := by
      intro l
      induction l with
      | nil => intro u w _; simp [al_nil]
      | cons p l ih2 =>
        intro u w h
        rw [al_cons, al_cons, h p l (by simp), ih2 (fun z l' => u z (p :: l')) (fun z l' => w z (p :: l')) (fun z l' hl' => h z (p :: l') (by simp; omega))]
        omega
    rw [q post (fun y l' => h y * F (v :: x :: l')) (fun y l' => h y * F (x :: v :: l')) (fun z l' hl' => by
      have := ha [] v x l' (by simp only [List.nil_append, List.length_cons]; omega)
      simp only [List.nil_append] at this
      rw [this, Int.mul_neg])]
    have := al_rep (h := h) (v := v) (post := post) (F := fun l => F (x :: l)) (fun pre a b post' hl => ha (x :: pre) a b post' (by simp only [List.cons_append, List.length_cons]; omega))
    rw [this, repS_pre]; omega
/-- Cramer's rule. -/
theorem cramer {rs : List Nat} {B : List Vc} {v : Vc} {q : Nat} (hq : q ∈ rs) (hl : B.length = rs.length) : v q * Dt rs B = repS (fun y => y q) (Dt rs) v [] B := by
  have h0 := Dt_same (l := v :: B) hq
  have h1 : Dt (q :: rs) (v :: B) = v q * Dt rs B - al (fun y l' => y q * Dt rs (v :: l')) B := rfl
  rw [h1, al_rep (F := Dt rs) (fun pre x y post' hl2 => Dt_Asy rs pre post' x y (by omega))] at h0
  omega

/-! ### Columns as a function -/
def up (B : Nat → Vc) (k : Nat) (v : Vc) : Nat → Vc := fun i => if i = k then v else B i
theorem up_at {B : Nat → Vc} {k : Nat} {v : Vc} : up B k v k = v := by simp [up]
theorem up_ne {B : Nat → Vc} {k i : Nat} {v : Vc} (h : i ≠ k) : up B k v i = B i := by simp [up, h]
theorem up_up {B : Nat → Vc} {k : Nat} {v u : Vc} : up (up B k v) k u = up B k u := by funext i; by_cases h : i = k <;> simp [up, h]
theorem up_comm {B : Nat → Vc} {k l : Nat} {v u : Vc} (h : k ≠ l) : up (up B k v) l u = up (up B l u) k v := by
  funext i
  by_cases h1 : i = k
  · subst h1; simp [up, h]
  · by_cases h2 : i = l
    · subst h2; simp [up, h1]
    · simp [up, h1, h2]
theorem up_self {B : Nat → Vc} {k : Nat} : up B k (B k) = B := by funext i; by_cases h : i = k <;> simp [up, h]
def cols (B : Nat → Vc) (a n : Nat) : List Vc := (List.range' a n).map B
theorem cols_len {B : Nat → Vc} {a n : Nat} : (cols B a n).length = n := by simp [cols]
theorem cols_up {B : Nat → Vc} {a n k : Nat} {v : Vc} (h : k < a ∨ a + n ≤ k) : cols (up B k v) a n = cols B a n := by
  unfold cols
  refine List.map_congr_left fun i hi => up_ne fun e => ?_
  subst e
  rw [List.mem_range'_1] at hi; omega
theorem cols_split {B : Nat → Vc} {n k : Nat} (hk : k < n) : cols B 0 n = cols B 0 k ++ B k :: cols B (k + 1) (n - (k + 1)) := by
  unfold cols
  have e : List.range' 0 n = List.range' 0 k ++ List.range' k (n - k) := by
    have := List.range'_append_1 (s := 0) (m := k) (n := n - k)
    rw [Nat.zero_add, show k + (n - k) = n from by omega] at this
    exact this.symm
  have e2 : List.range' k (n - k) = k :: List.range' (k + 1) (n - (k + 1)) := by
    rw [show n - k = (n - (k + 1)) + 1 from by omega, List.range'_succ]
  rw [e, e2]; simp
/-- The determinant of the first M coordinates of M columns. -/
def Dm (M : Nat) (B : Nat → Vc) : Int := Dt (List.range M) (cols B 0 M)
section
variable {M : Nat} {B : Nat → Vc} {k l : Nat} {x y : Vc}
theorem Dm_up (hk : k < M) : Dm M (up B k x) = Dt (List.range M) (cols B 0 k ++ x :: cols B (k + 1) (M - (k + 1))) := by
  unfold Dm
  rw [cols_split hk, up_at, cols_up (by omega), cols_up (by omega)]
theorem Dm_lin (hk : k < M) {a b : Int} : Dm M (up B k (lc a b x y)) = a * Dm M (up B k x) + b * Dm M (up B k y) := by
  rw [Dm_up hk, Dm_up hk, Dm_up hk]
  exact Dt_Lin _ _ _ _ _ _ _ (by simp [cols_len]; omega)
theorem Dt_eq0 {rs : List Nat} {x : Vc} : ∀ (mid pre post : List Vc), (pre ++ x :: mid ++ x :: post).length = rs.length → Dt rs (pre ++ x :: mid ++ x :: post) = 0
  | [], pre, post, h => by
    have e : pre ++ [x] ++ x :: post = pre ++ x :: x :: post := by simp
    rw [e] at h ⊢
    have := Dt_Asy rs pre post x x h; omega
  | y :: mid, pre, post, h => by
    have e : pre ++ x :: (y :: mid) ++ x :: post = pre ++ x :: y :: (mid ++ x :: post) := by simp
    have e2 : pre ++ y :: x :: (mid ++ x :: post) = (pre ++ [y]) ++ x :: mid ++ x :: post := by simp
    rw [e] at h ⊢
    rw [Dt_Asy rs pre _ x y h, e2, Dt_eq0 mid (pre ++ [y]) post (by rw [← e2]; simpa using h)]; rfl
theorem Dm_eq0' (hk : k < l) (hl : l < M) (h : B k = B l) : Dm M B = 0 := by
  unfold Dm
  have e : cols B 0 M = cols B 0 k ++ B k :: (cols B (k + 1) (l - (k + 1))) ++ B k :: cols B (l + 1) (M - (l + 1)) := by
    rw [cols_split hl, cols_split (n := l) hk, ← h]
  rw [e]
  exact Dt_eq0 _ _ _ (by simp [cols_len]; omega)
theorem Dm_eq0 (hk : k < M) (hl : l < M) (hne : k ≠ l) (h : B k = B l) : Dm M B = 0 := by
  rcases Nat.lt_or_ge k l with h1 | h1
  · exact Dm_eq0' h1 hl h
  · exact Dm_eq0' (by omega) hk h.symm
theorem Dm_swap (hk : k < M) (hl : l < M) (hne : k ≠ l) : Dm M (up (up B k x) l y) = -(Dm M (up (up B k y) l x)) := by
  have h0 : Dm M (up (up B k (lc 1 1 x y)) l (lc 1 1 x y)) = 0 := Dm_eq0 hk hl hne (by rw [up_ne hne, up_at, up_at])
  rw [Dm_lin hl, up_comm hne, up_comm hne, Dm_lin hk, Dm_lin hk] at h0
  have hx : Dm M (up (up B l x) k x) = 0 := Dm_eq0 hk hl hne (by rw [up_at, up_ne hne.symm, up_at])
  have hy : Dm M (up (up B l y) k y) = 0 := Dm_eq0 hk hl hne (by rw [up_at, up_ne hne.symm, up_at])
  rw [hx, hy] at h0
  rw [up_comm hne, up_comm (v := y) (u := x) hne]
  omega
/-- A sum over the first n numbers. -/
def sm : Nat → (Nat → Int) → Int
  | 0, _ => 0
  | n + 1, f => sm n f + f n
theorem sm_congr : ∀ {n : Nat} {f g : Nat → Int}, (∀ i, i < n → f i = g i) → sm n f = sm n g
  | 0, _, _, _ => rfl
  | n + 1, f, g, h => by simp only [sm]; rw [sm_congr (fun i hi => h i (by omega)), h n (by omega)]
theorem sm_mul {a : Int} : ∀ {n : Nat} {f : Nat → Int}, sm n (fun i => a * f i) = a * sm n f
  | 0, _ => by simp [sm]
  | n + 1, f => by simp only [sm]; rw [sm_mul, Int.mul_add]
theorem sm_add : ∀ {n : Nat} {f g : Nat → Int}, sm n (fun i => f i + g i) = sm n f + sm n g
  | 0, _, _ => by simp [sm]
  | n + 1, f, g => by simp only [sm]; rw [sm_add]; omega
theorem sm_zero : ∀ {n : Nat} {f : Nat → Int}, (∀ i, i < n → f i = 0) → sm n f = 0
  | 0, _, _ => rfl
  | n + 1, f, h => by simp only [sm]; rw [sm_zero (fun i hi => h i (by omega)), h n (by omega)]; rfl
theorem sm_one {i0 : Nat} : ∀ {n : Nat} {f : Nat → Int}, i0 < n → (∀ i, i < n → i ≠ i0 → f i = 0) → sm n f = f i0
  | 0, _, h, _ => by omega
  | n + 1, f, h, h0 => by
    simp only [sm]
    by_cases hn : i0 = n
    · subst hn; rw [sm_zero (fun i hi => h0 i (by omega) (by omega))]; omega
    · rw [sm_one (by omega) (fun i hi hne => h0 i (by omega) hne), h0 n (by omega) (fun e => hn e.symm)]; omega
theorem sm_split {k : Nat} : ∀ {m : Nat} {f : Nat → Int}, sm (k + m) f = sm k f + sm m (fun i => f (k + i))
  | 0, f => by simp [sm]
  | m + 1, f => by rw [show k + (m + 1) = (k + m) + 1 from rfl]; simp only [sm]; rw [sm_split]; omega
theorem rep_sm {h : Vc → Int} {F : List Vc → Int} {v : Vc} {B : Nat → Vc} {M : Nat} : ∀ {n a : Nat}, a + n = M → repS h F v (cols B 0 a) (cols B a n) = sm n fun i => h (B (a + i)) * F (cols (up B (a + i) v) 0 M)
  | 0, a, _ => rfl
  | n + 1, a, hM => by
    have e : cols B a (n + 1) = B a :: cols B (a + 1) n := by simp [cols, List.range'_succ]
    have e2 : cols B 0 a ++ [B a] = cols B 0 (a + 1) := by
      unfold cols
      rw [List.range'_concat]; simp
    rw [e]
    simp only [repS]
    rw [e2, rep_sm (M := M) (n := n) (a := a + 1) (by omega)]
    have e3 : cols (up B a v) 0 M = cols B 0 a ++ v :: cols B (a + 1) n := by
      rw [cols_split (k := a) (by omega), up_at, cols_up (by omega), cols_up (by omega)]
      rw [show M - (a + 1) = n from by omega]
    have e4 : sm (n + 1) (fun i => h (B (a + i)) * F (cols (up B (a + i) v) 0 M)) = h (B a) * F (cols (up B a v) 0 M) + sm n (fun i => h (B (a + 1 + i)) * F (cols (up B (a + 1 + i) v) 0 M)) := by
      rw [show n + 1 = 1 + n from by omega, sm_split]
      simp only [sm, Nat.add_zero, Int.zero_add]
      congr 1
      exact sm_congr fun i _ => by rw [Nat.add_assoc a 1 i]
    rw [e4, e3]
theorem Dm_cramer {q : Nat} (hq : q < M) {v : Vc} : v q * Dm M B = sm M fun k => B k q * Dm M (up B k v) := by
  have := cramer (rs := List.range M) (B := cols B 0 M) (v := v) (q := q) (by simpa using hq) (by simp [cols_len])
  unfold Dm
  rw [this]
  have h := rep_sm (h := fun y => y q) (F := Dt (List.range M)) (v := v) (B := B) (M := M) (n := M) (a := 0) (by omega)
  simp only [Nat.zero_add] at h
  exact h

/-! Only the first M coordinates are looked at. -/
theorem al_map {t : Vc → Vc} : ∀ {l : List Vc} {f : Vc → List Vc → Int}, al f (l.map t) = al (fun x l' => f (t x) (l'.map t)) l
  | [], _ => rfl
  | x :: l, f => by
    rw [List.map_cons, al_cons, al_cons, al_map]; rfl
def trV (M : Nat) (x : Vc) : Vc := fun q => if q < M then x q else 0
theorem Dt_tr : ∀ {rs : List Nat} {l : List Vc}, (∀ q, q ∈ rs → q < M) → Dt rs (l.map (trV M)) = Dt rs l
  | [], _, _ => rfl
  | r :: rs, l, h => by
    simp only [Dt]
    rw [al_map]
    refine al_congr fun y l' => ?_
    rw [Dt_tr (fun q hq => h q (by simp [hq]))]
    have : trV M y r = y r := by unfold trV; rw [if_pos (h r (by simp))]
    rw [this]
theorem Dm_tr : Dm M (fun k => trV M (B k)) = Dm M B := by
  unfold Dm
  have e : cols (fun k => trV M (B k)) 0 M = (cols B 0 M).map (trV M) := by simp [cols]
  rw [e, Dt_tr (fun q hq => by simpa using hq)]
theorem Dm_ext {C : Nat → Vc} (h : ∀ k, k < M → ∀ q, q < M → B k q = C k q) : Dm M B = Dm M C := by
  rw [← Dm_tr (B := B), ← Dm_tr (B := C)]
  unfold Dm
  have : cols (fun k => trV M (B k)) 0 M = cols (fun k => trV M (C k)) 0 M := by
    unfold cols
    refine List.map_congr_left fun k hk => ?_
    rw [List.mem_range'_1] at hk
    funext q
    unfold trV
    split
    · rename_i hq; exact h k (by omega) q hq
    · rfl
  rw [this]
def sv (n : Nat) (c : Nat → Int) (B : Nat → Vc) : Vc := fun q => sm n fun k => c k * B k q
theorem Dm_sv {i : Nat} {C : Nat → Vc} (hi : i < M) {c : Nat → Int} : ∀ {n : Nat}, Dm M (up C i (sv n c B)) = sm n fun k => c k * Dm M (up C i (B k))
  | 0 => by
    have e : up C i (sv 0 c B) = up C i (lc 0 0 (C i) (C i)) := by congr 1; funext q; simp [sv, sm, lc]
    rw [e, Dm_lin hi]; simp [sm]
  | n + 1 => by
    have e : up C i (sv (n + 1) c B) = up C i (lc 1 (c n) (sv n c B) (B n)) := by congr 1; funext q; simp [sv, sm, lc]
    rw [e, Dm_lin hi, Dm_sv hi]
    simp only [sm]; omega
theorem pluecker {r i : Nat} (hr : r < M) (hi : i < M) (hne : i ≠ r) : Dm M B * Dm M (up (up B r x) i y) = Dm M (up B i y) * Dm M (up B r x) - Dm M (up B i x) * Dm M (up B r y) := by
  have h1 : Dm M (up (up B r x) i (lc (Dm M B) 0 y y)) = Dm M (up (up B r x) i (sv M (fun k => Dm M (up B k y)) B)) := by
    refine Dm_ext fun k hk q hq => ?_
    by_cases h : k = i
    · subst h
      rw [up_at, up_at]
      have := Dm_cramer (M := M) (B := B) hq (v := y)
      simp only [lc, sv]
      rw [sm_congr (g := fun k => B k q * Dm M (up B k y)) (fun k _ => Int.mul_comm _ _), ← this, Int.mul_comm]; omega
    · rw [up_ne h, up_ne h]
  rw [Dm_lin hi, Dm_sv hi] at h1
  have h2 : sm M (fun k => Dm M (up B k y) * Dm M (up (up B r x) i (B k))) = Dm M (up B i y) * Dm M (up B r x) + Dm M (up B r y) * -(Dm M (up B i x)) := by
    have hi0 : up (up B r x) i (B i) = up B r x := by
      have := up_self (B := up B r x) (k := i)
      rwa [up_ne hne] at this
    have hr0 : Dm M (up (up B r x) i (B r)) = -(Dm M (up B i x)) := by
      rw [Dm_swap hr hi (fun e => hne e.symm), up_self]
    have hs : ∀ k, k < M → Dm M (up B k y) * Dm M (up (up B r x) i (B k)) = (if k = i then Dm M (up B i y) * Dm M (up B r x) else 0) + (if k = r then Dm M (up B r y) * -(Dm M (up B i x)) else 0) := fun k hk => by
      by_cases h3 : k = i
      · subst h3; rw [if_pos rfl, if_neg hne, hi0]; omega
      · by_cases h4 : k = r
        · subst h4; rw [if_neg h3, if_pos rfl, hr0]; omega
        · rw [if_neg h3, if_neg h4]
          have : Dm M (up (up B r x) i (B k)) = 0 := Dm_eq0 hk hi h3 (by rw [up_ne h3, up_ne h4, up_at])
          rw [this]; omega
    rw [sm_congr hs, sm_add, sm_one hi (fun k _ hk => if_neg hk), sm_one hr (fun k _ hk => if_neg hk), if_pos rfl, if_pos rfl]
  rw [h2] at h1
  have : Dm M (up B r y) * -(Dm M (up B i x)) = -(Dm M (up B i x) * Dm M (up B r y)) := by rw [Int.mul_neg, Int.mul_comm]
  omega
/-! How large it is. -/
theorem al_le {K : Nat} : ∀ {l : List Vc} {f : Vc → List Vc → Int}, (∀ x l', x ∈ l → (∀ z, z ∈ l' → z ∈ l) → l'.length + 1 = l.length → (f x l').natAbs ≤ K) → (al f l).natAbs ≤ l.length * K
  | [], _, _ => by simp [al_nil]
  | x :: l, f, h => by
    rw [al_cons]
    have h1 := h x l (by simp) (fun z hz => by simp [hz]) (by simp)
    have h2 := al_le (l := l) (f := fun y l' => f y (x :: l')) (fun y l' hy hz hl => h y (x :: l') (by simp [hy]) (fun z hz' => by
      rcases List.mem_cons.1 hz' with e | e
      · simp [e]
      · simp [hz z e]) (by simp; omega))
    simp only [List.length_cons, Nat.succ_mul]
    omega
/-- The product of the rows' bounds and of the numbers of columns that are left. -/
def bdD (b : Nat → Nat) : List Nat → Nat
  | [] => 1
  | r :: rs => (rs.length + 1) * (b r * bdD b rs)
theorem Dt_le {b : Nat → Nat} : ∀ {rs : List Nat} {l : List Vc}, l.length = rs.length → (∀ x, x ∈ l → ∀ q, q ∈ rs → (x q).natAbs ≤ b q) → (Dt rs l).natAbs ≤ bdD b rs
  | [], _, _, _ => by simp [Dt, bdD]
  | r :: rs, l, hl, h => by
    simp only [Dt, bdD]
    have := al_le (K := b r * bdD b rs) (l := l) (f := fun y l' => y r * Dt rs l') (fun x l' hx hz hl' => by
      rw [Int.natAbs_mul]
      exact Nat.mul_le_mul (h x hx r (by simp)) (Dt_le (by simp at hl; omega) (fun z hz' q hq => h z (hz z hz') q (by simp [hq]))))
    simp only [List.length_cons] at hl
    rw [hl] at this
    exact this
theorem Dm_le {b : Nat → Nat} (h : ∀ k, k < M → ∀ q, q < M → (B k q).natAbs ≤ b q) : (Dm M B).natAbs ≤ bdD b (List.range M) := by
  unfold Dm
  refine Dt_le (by simp [cols_len]) fun z hz q hq => ?_
  unfold cols at hz
  obtain ⟨k, hk, rfl⟩ := List.mem_map.1 hz
  rw [List.mem_range'_1] at hk
  exact h k (by omega) q (by simpa using hq)
/-! The unit columns. -/
def un (k : Nat) : Vc := fun q => if q = k then 1 else 0
theorem Dt_un : ∀ {n a : Nat}, Dt (List.range' a n) ((List.range' a n).map un) = 1
  | 0, _ => rfl
  | n + 1, a => by
    rw [List.range'_succ, List.map_cons]
    simp only [Dt]
    rw [al_cons]
    have h0 : al (fun y l' => y a * Dt (List.range' (a + 1) n) (un a :: l')) ((List.range' (a + 1) n).map un) = 0 := by
      have q : ∀ (l : List Vc) (f : Vc → List Vc → Int), (∀ x l', x ∈ l → f x l' = 0) → al f l = 0 := by
        intro l
        induction l with
        | nil => intro f _; rfl
        | cons x l ih => intro f h; rw [al_cons, h x l (by simp), ih _ (fun y l' hy => h y (x :: l') (by simp [hy]))]; rfl
      refine q _ _ fun x l' hx => ?_
      obtain ⟨k, hk, rfl⟩ := List.mem_map.1 hx
      rw [List.mem_range'_1] at hk
      have : un k a = 0 := by unfold un; rw [if_neg (by omega)]
      rw [this, Int.zero_mul]
    rw [h0, Dt_un]
    simp [un]
theorem Dm_un : Dm M un = 1 := by
  have := Dt_un (a := 0) (n := M)
  unfold Dm cols
  rw [List.range_eq_range']; exact this
theorem Dm_un_up {i : Nat} (hi : i < M) {v : Vc} : Dm M (up un i v) = v i := by
  have := Dm_cramer (M := M) (B := un) hi (v := v)
  rw [Dm_un, Int.mul_one] at this
  rw [this, sm_one hi (fun k _ hk => by unfold un; rw [if_neg (fun e => hk e.symm), Int.zero_mul])]
  unfold un; rw [if_pos rfl, Int.one_mul]
end
end Go.Eng
end

section
/- Every tableau of a run, by determinants: divisions are exact, entries are small, solutions stay the same. -/


set_option linter.unusedSimpArgs false
set_option linter.unnecessarySimpa false
set_option linter.unusedVariables false
set_option linter.unusedSectionVars false
namespace Go.Eng
/-- A program with coefficients -1, 0, 1, bounds -1, 0, and costs from 0 to 20. -/
structure LpC (p : LPr) : Prop where
  ok : LpOk p
  c : ∀ i : Nat, i < p.rws.length → ∀ j : Nat, j < p.obj.length → -1 ≤ nth (nth p.rws i) j ∧ nth (nth p.rws i) j ≤ 1
  b : ∀ i : Nat, i < p.rws.length → -1 ≤ nth p.bnd i ∧ nth p.bnd i ≤ 0
  o : ∀ j : Nat, j < p.obj.length → -20 ≤ nth p.obj j ∧ nth p.obj j ≤ 0
section
variable {p : LPr}
theorem cel_new {i j : Nat} (hi : i < p.rws.length) (hj : j < ntW p) : cel (newTab p) i j = if j < p.obj.length then nth (nth p.rws i) j else if j = p.obj.length + i then 1 else if j = p.obj.length + p.rws.length then -1 else if j = p.obj.length + p.rws.length + 1 then nth p.bnd i else 0 := by
  unfold cel newTab
  rw [nth_rangeMap (by omega)]
  unfold ntR; rw [if_pos hi]
  unfold ntRow; rw [nth_rangeMap hj]
theorem cel_goal {j : Nat} (hj : j < ntW p) : cel (newTab p) p.rws.length j = if j < p.obj.length then -(nth p.obj j) else 0 := by
  unfold cel newTab
  rw [nth_rangeMap (by omega)]
  unfold ntR; rw [if_neg (by omega), if_pos rfl]
  unfold ntGoal ntGo; rw [nth_rangeMap hj]
theorem cel_art {j : Nat} (hj : j < ntW p) : cel (newTab p) ((p.rws.length + 1 : Nat) : Int) j = if j = p.obj.length + p.rws.length then 1 else 0 := by
  unfold cel newTab
  rw [nth_rangeMap (by omega)]
  unfold ntR; rw [if_neg (by omega), if_neg (by omega)]
  unfold ntArt; rw [nth_rangeMap hj]
/-- A column of the first tableau. -/
def A0 (p : LPr) (j : Int) : Vc := fun i => cel (newTab p) i j
def bc (p : LPr) (bs : List Int) : Nat → Vc := fun k => if k < p.rws.length then A0 p (nth bs k) else un k
structure DI (p : LPr) (t : Tb) : Prop where
  rl : t.rs.length = p.rws.length + 2
  wl : ∀ i : Nat, i < p.rws.length + 2 → (nth t.rs i).length = ntW p
  bl : t.bs.length = p.rws.length
  br : ∀ k : Nat, k < p.rws.length → 0 ≤ nth t.bs k ∧ nth t.bs k < (p.obj.length : Int) + p.rws.length + 1
  dp : 0 < t.dn
  eps : ∃ e : Int, (e = 1 ∨ e = -1) ∧ t.dn = e * Dm (p.rws.length + 2) (bc p t.bs) ∧ ∀ i : Nat, i < p.rws.length + 2 → ∀ j : Nat, j < ntW p → cel t i j = e * Dm (p.rws.length + 2) (up (bc p t.bs) i (A0 p j))
theorem DI.new : DI p (newTab p) := by
  have hbs : ∀ k : Nat, k < p.rws.length → nth (newTab p).bs k = ((p.obj.length + k : Nat) : Int) := fun k hk => by
    unfold newTab ntBs; rw [nth_rangeMap hk]
  have hun : ∀ k : Nat, k < p.rws.length + 2 → ∀ q : Nat, q < p.rws.length + 2 → bc p (newTab p).bs k q = un k q := fun k hk q hq => by
    unfold bc
    by_cases h : k < p.rws.length
    · rw [if_pos h, hbs k h]
      unfold A0 un
      by_cases hq1 : q < p.rws.length
      · rw [cel_new hq1 (by unfold ntW; omega), if_neg (by omega)]
        by_cases hqk : q = k
        · rw [if_pos (by omega), if_pos hqk]
        · rw [if_neg (by omega), if_neg (by omega), if_neg (by omega), if_neg hqk]
      · by_cases hq2 : q = p.rws.length
        · subst hq2; rw [cel_goal (by unfold ntW; omega), if_neg (by omega), if_neg (by omega)]
        · obtain rfl : q = p.rws.length + 1 := by omega
          rw [cel_art (by unfold ntW; omega), if_neg (by omega), if_neg (by omega)]
    · rw [if_neg h]
  refine ⟨newTab_rl, fun i hi => ?_, newTab_bl, fun k hk => ?_, by simp [newTab], 1, .inl rfl, ?_, fun i hi j hj => ?_⟩
  · unfold newTab; rw [nth_rangeMap hi]; exact ntR_len
  · rw [hbs k hk]; omega
  · rw [Dm_ext hun, Dm_un]; rfl
  · have : Dm (p.rws.length + 2) (up (bc p (newTab p).bs) i (A0 p j)) = Dm (p.rws.length + 2) (up un i (A0 p j)) := Dm_ext fun k hk q hq => by
      by_cases h : k = i
      · subst h; rw [up_at, up_at]
      · rw [up_ne h, up_ne h]; exact hun k hk q hq
    rw [this, Dm_un_up hi, Int.one_mul]; rfl
variable {t : Tb} {r : Nat} {c : Nat}
theorem cel_pivA {i j : Nat} (h : DI p t) (hi : i < p.rws.length + 2) (hj : j < ntW p) : cel (pivA t r c) i j = if i = r then cel t i j else (cel t i j * cel t r c - cel t i c * cel t r j).tdiv t.dn := by
  have e : cel (pivA t r c) i j = nth (nth (pvTo t r c t.rs.length).rs i) j := rfl
  have hi' : i < t.rs.length := by rw [h.rl]; exact hi
  rw [e, pv_at hi']
  by_cases hir : i = r
  · rw [if_neg (fun q => q.2 (by omega)), if_pos hir]; rfl
  · rw [if_pos ⟨hi', by omega⟩, if_neg hir]
    unfold pvN
    rw [nth_rangeMap (by rw [h.wl i hi]; exact hj)]; rfl
theorem cel_ng {s : Tb} {i j : Nat} {w : Nat} (hi : i < s.rs.length) (hw : (nth s.rs i).length = w) (hj : j < w) : cel (ngTo s s.rs.length) i j = -(cel s i j) := by
  unfold cel
  rw [ng_at hi, if_pos hi]
  unfold ngN
  rw [nth_eq (l := (nth s.rs i).map fun x => -x) (by simp; omega), List.getElem_map]
  congr 1; exact (nth_eq (by omega)).symm
/-- What a pivot does, up to a sign. -/
structure PivE (p : LPr) (t t' : Tb) (r c : Nat) (s : Int) : Prop where
  s1 : s = 1 ∨ s = -1
  dn : t'.dn = s * cel t r c
  bs : t'.bs = t.bs.set r c
  row : ∀ j : Nat, j < ntW p → cel t' r j = s * cel t r j
  oth : ∀ i : Nat, i < p.rws.length + 2 → i ≠ r → ∀ j : Nat, j < ntW p → cel t' i j * t.dn = s * (cel t i j * cel t r c - cel t i c * cel t r j)
theorem DI.piv (h : DI p t) (hr : r < p.rws.length) (hc : c < p.obj.length + p.rws.length + 1) (hp : cel t r c ≠ 0) : DI p (pivF t r c) ∧ ∃ s, PivE p t (pivF t r c) r c s := by
  obtain ⟨e, he1, he2, he3⟩ := h.eps
  have hcw : c < ntW p := by unfold ntW; omega
  have hee : e * e = 1 := by rcases he1 with rfl | rfl <;> rfl
  have hbr : bc p (t.bs.set r c) = up (bc p t.bs) r (A0 p c) := by
    funext k
    unfold bc
    by_cases hk : k = r
    · subst hk; rw [if_pos hr, up_at, nth_set (by omega) (by rw [h.bl]; omega), if_pos (by omega)]
    · rw [up_ne hk]
      by_cases hkm : k < p.rws.length
      · rw [if_pos hkm, if_pos hkm, nth_set (by omega) (by rw [h.bl]; omega), if_neg (by omega)]
      · rw [if_neg hkm, if_neg hkm]
  -- the quotient
  have hex : ∀ i : Nat, i < p.rws.length + 2 → i ≠ r → ∀ j : Nat, j < ntW p → cel t i j * cel t r c - cel t i c * cel t r j = t.dn * (e * Dm (p.rws.length + 2) (up (up (bc p t.bs) r (A0 p c)) i (A0 p j))) := fun i hi hir j hj => by
    rw [he3 i hi j hj, he3 r (by omega) c hcw, he3 i hi c hcw, he3 r (by omega) j hj, he2]
    have hpl := pluecker (M := p.rws.length + 2) (B := bc p t.bs) (x := A0 p c) (y := A0 p j) (r := r) (i := i) (by omega) hi hir
    have q : ∀ a b : Int, e * a * (e * b) = a * b := fun a b => by
      rw [Int.mul_assoc, Int.mul_left_comm a e b, ← Int.mul_assoc, hee, Int.one_mul]
    rw [q, q, q, hpl]
  have hq : ∀ i : Nat, i < p.rws.length + 2 → i ≠ r → ∀ j : Nat, j < ntW p → (cel t i j * cel t r c - cel t i c * cel t r j).tdiv t.dn = e * Dm (p.rws.length + 2) (up (up (bc p t.bs) r (A0 p c)) i (A0 p j)) := fun i hi hir j hj => by
    rw [hex i hi hir j hj, Int.mul_tdiv_cancel_left _ (by have := h.dp; omega)]
  have hbs : ∀ k : Nat, k < p.rws.length → 0 ≤ nth (t.bs.set r c) k ∧ nth (t.bs.set r c) k < (p.obj.length : Int) + p.rws.length + 1 := fun k hk => by
    rw [nth_set (by omega) (by rw [h.bl]; omega)]
    split
    · omega
    · exact h.br k hk
  have hA : ∀ i : Nat, i < p.rws.length + 2 → ∀ j : Nat, j < ntW p → cel (pivA t r c) i j = e * Dm (p.rws.length + 2) (up (bc p (t.bs.set r c)) i (A0 p j)) := fun i hi j hj => by
    rw [cel_pivA h hi hj, hbr]
    by_cases hir : i = r
    · subst hir; rw [if_pos rfl, up_up]; exact he3 i hi j hj
    · rw [if_neg hir, hq i hi hir j hj]
  have hdA : cel t r c = e * Dm (p.rws.length + 2) (bc p (t.bs.set r c)) := by rw [hbr]; exact he3 r (by omega) c hcw
  have hwA : ∀ i : Nat, i < p.rws.length + 2 → (nth (pivA t r c).rs i).length = ntW p := fun i hi => (pvTo_w (by rw [h.rl]; exact hi)).trans (h.wl i hi)
  have hrA : (pivA t r c).rs.length = p.rws.length + 2 := pv_len.trans h.rl
  by_cases hn : cel t r c < 0
  · rw [pivF_1 hn]
    have hN : ∀ i : Nat, i < p.rws.length + 2 → ∀ j : Nat, j < ntW p → cel (ngTo (pivN t r c) t.rs.length) i j = -(cel (pivA t r c) i j) := fun i hi j hj => by
      have h1 : (pivN t r c).rs.length = t.rs.length := pivN_rl
      rw [← h1]
      exact cel_ng (s := pivN t r c) (w := ntW p) (by rw [h1, h.rl]; exact hi) (hwA i hi) hj
    refine ⟨⟨by rw [ng_len]; exact hrA, fun i hi => (ngTo_w (by rw [pivN_rl, h.rl]; exact hi)).trans (hwA i hi), by simp [ngTo, pivN, h.bl], hbs, by show 0 < -(cel t r c); omega, -e, by omega, ?_, fun i hi j hj => ?_⟩, -1, .inr rfl, ?_, rfl, fun j hj => ?_, fun i hi hir j hj => ?_⟩
    · show -(cel t r c) = -e * _
      rw [Int.neg_mul, hdA]; rfl
    · rw [hN i hi j hj, hA i hi j hj, Int.neg_mul]; rfl
    · show -(cel t r c) = -1 * _
      omega
    · rw [hN r (by omega) j hj, cel_pivA h (by omega) hj, if_pos rfl]; omega
    · rw [hN i hi j hj, cel_pivA h hi hj, if_neg hir, hex i hi hir j hj, Int.mul_tdiv_cancel_left _ (by have := h.dp; omega), Int.neg_mul, Int.mul_comm t.dn]; omega
  · rw [pivF_0 hn]
    refine ⟨⟨hrA, hwA, by simp [pivA, h.bl], hbs, by show 0 < cel t r c; omega, e, he1, hdA, hA⟩, 1, .inl rfl, ?_, rfl, fun j hj => ?_, fun i hi hir j hj => ?_⟩
    · show cel t r c = 1 * _
      omega
    · rw [cel_pivA h (by omega) hj, if_pos rfl]; omega
    · rw [cel_pivA h hi hj, if_neg hir, hex i hi hir j hj, Int.mul_tdiv_cancel_left _ (by have := h.dp; omega), Int.mul_comm t.dn]; omega
/-- The columns of the basis. -/
theorem DI.unit (h : DI p t) {i k : Nat} (hi : i < p.rws.length + 2) (hk : k < p.rws.length) : cel t i (nth t.bs k) = if i = k then t.dn else 0 := by
  obtain ⟨e, he1, he2, he3⟩ := h.eps
  obtain ⟨h0, h1⟩ := h.br k hk
  obtain ⟨j, hj⟩ := Int.eq_ofNat_of_zero_le h0
  have hb : bc p t.bs k = A0 p j := by unfold bc; rw [if_pos hk, hj]
  rw [hj, he3 i hi j (by unfold ntW; omega), ← hb]
  by_cases hik : i = k
  · subst hik; rw [if_pos rfl, up_self, he2]
  · rw [if_neg hik, Dm_eq0 hi (by omega) hik (by rw [up_at, up_ne (fun e => hik e.symm)]), Int.mul_zero]
theorem DI.inj (h : DI p t) {k l : Nat} (hk : k < p.rws.length) (hl : l < p.rws.length) (he : nth t.bs k = nth t.bs l) : k = l := by
  have h1 := h.unit (i := k) (by omega) hk
  have h2 := h.unit (i := k) (by omega) hl
  rw [he, h2] at h1
  by_cases hkl : k = l
  · exact hkl
  · rw [if_neg hkl, if_pos rfl] at h1
    have := h.dp; omega
/-- The basis tells all. -/
theorem DI.eq {t' : Tb} (h : DI p t) (h' : DI p t') (hb : t.bs = t'.bs) : t = t' := by
  obtain ⟨e, he1, he2, he3⟩ := h.eps
  obtain ⟨e', he1', he2', he3'⟩ := h'.eps
  have hee : e = e' := by
    have d1 := h.dp
    have d2 := h'.dp
    rw [he2, hb] at d1
    rw [he2'] at d2
    rcases he1 with rfl | rfl <;> rcases he1' with rfl | rfl <;> first | rfl | (exfalso; omega)
  subst hee
  have hr : t.rs = t'.rs := by
    refine ext_get (h.rl.trans h'.rl.symm) fun i hi => ?_
    rw [h.rl] at hi
    refine ext_get ((h.wl i hi).trans (h'.wl i hi).symm) fun j hj => ?_
    rw [h.wl i hi] at hj
    have a1 := he3 i hi j hj
    have a2 := he3' i hi j hj
    unfold cel at a1 a2
    rw [a1, a2, hb]
  have hd : t.dn = t'.dn := by rw [he2, he2', hb]
  cases t; cases t'
  simp only at hr hb hd
  rw [hr, hb, hd]
/-! ### How large the entries are -/
def bdQ (m : Nat) (q : Nat) : Nat := if q = m then 20 else 1
theorem bdQ_le {m : Nat} (hm : m ≤ 6) : bdD (bdQ m) (List.range (m + 2)) ≤ 1000000000 := by
  have : m = 0 ∨ m = 1 ∨ m = 2 ∨ m = 3 ∨ m = 4 ∨ m = 5 ∨ m = 6 := by omega
  rcases this with rfl | rfl | rfl | rfl | rfl | rfl | rfl <;> decide
theorem A0_le (hp : LpC p) {j : Nat} (hj : j < ntW p) {q : Nat} (hq : q < p.rws.length + 2) : (A0 p j q).natAbs ≤ bdQ p.rws.length q := by
  unfold A0
  by_cases h1 : q < p.rws.length
  · have hb : bdQ p.rws.length q = 1 := by unfold bdQ; rw [if_neg (by omega)]
    rw [hb, cel_new h1 hj]
    split
    · have := hp.c q h1 j (by omega); omega
    · split
      · omega
      · split
        · omega
        · split
          · have := hp.b q h1; omega
          · omega
  · by_cases h2 : q = p.rws.length
    · subst h2
      have hb : bdQ p.rws.length p.rws.length = 20 := by unfold bdQ; rw [if_pos rfl]
      rw [hb, cel_goal hj]
      split
      · have := hp.o j (by omega); omega
      · omega
    · obtain rfl : q = p.rws.length + 1 := by omega
      have hb : bdQ p.rws.length (p.rws.length + 1) = 1 := by unfold bdQ; rw [if_neg (by omega)]
      rw [hb, cel_art hj]
      split <;> omega
theorem DI.small (hp : LpC p) (h : DI p t) : Bnd t := by
  obtain ⟨e, he1, he2, he3⟩ := h.eps
  have hb6 := bdQ_le hp.ok.r6
  have hcol : ∀ k : Nat, k < p.rws.length + 2 → ∀ q : Nat, q < p.rws.length + 2 → (bc p t.bs k q).natAbs ≤ bdQ p.rws.length q := fun k hk q hq => by
    unfold bc
    by_cases hkm : k < p.rws.length
    · rw [if_pos hkm]
      obtain ⟨h0, h1⟩ := h.br k hkm
      obtain ⟨j, hj⟩ := Int.eq_ofNat_of_zero_le h0
      rw [hj]
      exact A0_le hp (by unfold ntW; omega) hq
    · rw [if_neg hkm]; unfold un bdQ; split <;> split <;> omega
  have hin : ∀ x : Int, x.natAbs ≤ bdD (bdQ p.rws.length) (List.range (p.rws.length + 2)) → inB (e * x) := fun x hx => by
    unfold inB; rcases he1 with rfl | rfl <;> omega
  refine ⟨fun row hrow x hx => ?_, ?_, by have := h.dp; omega⟩
  · obtain ⟨i, hi, rfl⟩ := List.getElem_of_mem hrow
    have hi' : i < p.rws.length + 2 := by rw [← h.rl]; exact hi
    obtain ⟨j, hj, rfl⟩ := List.getElem_of_mem hx
    have hw := h.wl i hi'
    rw [nth_eq hi] at hw
    have hj' : j < ntW p := by rw [← hw]; exact hj
    have hc := he3 i hi' j hj'
    have e1 : cel t i j = t.rs[i][j] := by unfold cel; rw [nth_eq hi, nth_eq hj]
    rw [← e1, hc]
    refine hin _ (Dm_le fun k hk q hq => ?_)
    by_cases hk2 : k = i
    · subst hk2; rw [up_at]; exact A0_le hp hj' hq
    · rw [up_ne hk2]; exact hcol k hk q hq
  · rw [he2]; exact hin _ (Dm_le hcol)
/-! ### Solutions -/
theorem rng1 {s a b p q z : Int} : s * (a * p - b * q) * z = s * (p * (a * z)) + -(s * b) * (q * z) := by
  rw [Int.mul_sub, Int.sub_mul, Int.neg_mul, Int.sub_eq_add_neg]
  congr 1
  · ac_rfl
  · congr 1; ac_rfl
def Hom (p : LPr) (t : Tb) (z : Nat → Int) (E : Nat → Int) : Prop := ∀ i : Nat, i < p.rws.length + 2 → t.dn * E i + sm (ntW p) (fun j => cel t i j * z j) = 0
theorem Hom.piv {t' : Tb} {s : Int} (h : DI p t) (hr : r < p.rws.length) (hp : cel t r c ≠ 0) (he : PivE p t t' r c s) {z E : Nat → Int} (hE : E r = 0) : Hom p t z E ↔ Hom p t' z E := by
  have hs : s * s = 1 := by rcases he.s1 with rfl | rfl <;> rfl
  have hs0 : s ≠ 0 := by rcases he.s1 with rfl | rfl <;> decide
  have hd0 : t.dn ≠ 0 := by have := h.dp; omega
  have hrow : sm (ntW p) (fun j => cel t' r j * z j) = s * sm (ntW p) (fun j => cel t r j * z j) := by
    rw [← sm_mul]; exact sm_congr fun j hj => by rw [he.row j hj, Int.mul_assoc]
  have hoth : ∀ i : Nat, i < p.rws.length + 2 → i ≠ r → t.dn * sm (ntW p) (fun j => cel t' i j * z j) = s * (cel t r c * sm (ntW p) (fun j => cel t i j * z j) - cel t i c * sm (ntW p) (fun j => cel t r j * z j)) := fun i hi hir => by
    have e1 : t.dn * sm (ntW p) (fun j => cel t' i j * z j) = sm (ntW p) (fun j => s * (cel t r c * (cel t i j * z j)) + -(s * cel t i c) * (cel t r j * z j)) := by
      rw [← sm_mul]
      refine sm_congr fun j hj => ?_
      have := he.oth i hi hir j hj
      have e2 : t.dn * (cel t' i j * z j) = cel t' i j * t.dn * z j := by rw [← Int.mul_assoc, Int.mul_comm t.dn]
      rw [e2, this]
      exact rng1
    rw [e1, sm_add, sm_mul, sm_mul, sm_mul, Int.mul_sub, Int.neg_mul, Int.mul_assoc s (cel t i c)]; omega
  constructor
  · intro hh i hi
    by_cases hir : i = r
    · subst hir
      have h1 := hh i hi
      rw [hE, Int.mul_zero, Int.zero_add] at h1
      rw [hE, Int.mul_zero, Int.zero_add, hrow, h1, Int.mul_zero]
    · have h1 := hh i hi
      have h2 := hh r (by omega)
      rw [hE, Int.mul_zero, Int.zero_add] at h2
      have h3 := hoth i hi hir
      rw [h2, Int.mul_zero, Int.sub_zero] at h3
      have h4 : t.dn * (t'.dn * E i + sm (ntW p) (fun j => cel t' i j * z j)) = s * cel t r c * (t.dn * E i + sm (ntW p) (fun j => cel t i j * z j)) := by
        rw [Int.mul_add, h3, he.dn, Int.mul_add, Int.mul_assoc s (cel t r c) (sm _ _), Int.mul_left_comm t.dn (s * cel t r c) (E i)]
      rw [h1, Int.mul_zero] at h4
      exact (Int.mul_eq_zero.1 h4).resolve_left hd0
  · intro hh i hi
    have h2 := hh r (by omega)
    rw [hE, Int.mul_zero, Int.zero_add, hrow] at h2
    have h2 := (Int.mul_eq_zero.1 h2).resolve_left hs0
    by_cases hir : i = r
    · subst hir; rw [hE, Int.mul_zero, Int.zero_add, h2]
    · have h1 := hh i hi
      have h3 := hoth i hi hir
      rw [h2, Int.mul_zero, Int.sub_zero] at h3
      have h4 : t.dn * (t'.dn * E i + sm (ntW p) (fun j => cel t' i j * z j)) = s * cel t r c * (t.dn * E i + sm (ntW p) (fun j => cel t i j * z j)) := by
        rw [Int.mul_add, h3, he.dn, Int.mul_add, Int.mul_assoc s (cel t r c) (sm _ _), Int.mul_left_comm t.dn (s * cel t r c) (E i)]
      rw [h1, Int.mul_zero] at h4
      refine (Int.mul_eq_zero.1 h4.symm).resolve_left fun h5 => ?_
      rcases Int.mul_eq_zero.1 h5 with h6 | h6
      · exact hs0 h6
      · exact hp h6
end
end Go.Eng
end

section
/- Bland's rule ends. -/

set_option linter.unusedSimpArgs false
set_option linter.unnecessarySimpa false
set_option linter.unusedVariables false
set_option linter.unusedSectionVars false
namespace Go.Eng
/-! ### Ratios -/
theorem le_of_mul {a b c : Int} (hc : 0 < c) (h : a * c ≤ b * c) : a ≤ b := Int.le_of_mul_le_mul_right h hc
theorem rat_le {x a y b z c : Int} (ha : 0 < a) (hb : 0 < b) (hc : 0 < c) (h1 : x * b ≤ y * a) (h2 : y * c ≤ z * b) : x * c ≤ z * a := by
  refine le_of_mul hb ?_
  have e1 : x * c * b = x * b * c := by ac_rfl
  have e2 : z * a * b = z * b * a := by ac_rfl
  have g1 : x * b * c ≤ y * a * c := Int.mul_le_mul_of_nonneg_right h1 (by omega)
  have g2 : y * c * a ≤ z * b * a := Int.mul_le_mul_of_nonneg_right h2 (by omega)
  have e3 : y * a * c = y * c * a := by ac_rfl
  omega
/-- x/a comes before z/c, ties by u and v. -/
def Bef (x a u z c v : Int) : Prop := x * c ≤ z * a ∧ (x * c = z * a → u ≤ v)
theorem Bef.trans {x a u y b v z c q : Int} (ha : 0 < a) (hb : 0 < b) (hc : 0 < c) (h1 : Bef x a u y b v) (h2 : Bef y b v z c q) : Bef x a u z c q := by
  refine ⟨rat_le ha hb hc h1.1 h2.1, fun he => ?_⟩
  have h3 : y * a ≤ x * b := rat_le hb hc ha h2.1 (by rw [he]; exact Int.le_refl _)
  have h4 : z * b ≤ y * c := rat_le hc ha hb (by rw [he]; exact Int.le_refl _) h1.1
  have := h1.2 (by have := h1.1; omega)
  have := h2.2 (by have := h2.1; omega)
  omega
section
variable {t : Tb} {c : Int} {w : Nat}
def BefR (t : Tb) (c : Int) (w : Nat) (b i : Int) : Prop := Bef (cel t b (w - 1)) (cel t b c) (nth t.bs b) (cel t i (w - 1)) (cel t i c) (nth t.bs i)
theorem lv_spec : ∀ {k : Nat}, (lvTo t c w k < 0 → ∀ i : Nat, i < k → cel t i c ≤ 0) ∧ (0 ≤ lvTo t c w k → 0 < cel t (lvTo t c w k) c ∧ ∀ i : Nat, i < k → 0 < cel t i c → BefR t c w (lvTo t c w k) i)
  | 0 => ⟨fun _ i hi => by omega, fun h => by simp [lvTo] at h⟩
  | k + 1 => by
    obtain ⟨h1, h2⟩ := lv_spec (k := k)
    by_cases hp : cel t k c ≤ 0
    · rw [lv_1 hp]
      refine ⟨fun h i hi => ?_, fun h => ⟨(h2 h).1, fun i hi hc => ?_⟩⟩
      · by_cases hik : i = k
        · subst hik; exact hp
        · exact h1 h i (by omega)
      · by_cases hik : i = k
        · subst hik; omega
        · exact (h2 h).2 i (by omega) hc
    · by_cases hb : lvTo t c w k < 0
      · rw [lv_2 hp hb]
        refine ⟨fun h => by omega, fun h => ⟨by omega, fun i hi hc => ?_⟩⟩
        by_cases hik : i = k
        · subst hik; exact ⟨Int.le_refl _, fun _ => Int.le_refl _⟩
        · have := h1 hb i (by omega); omega
      · obtain ⟨g1, g2⟩ := h2 (by omega)
        by_cases hl : lvC t c w (lvTo t c w k) k
        · rw [lv_3 hp hb hl]
          have hkb : BefR t c w k (lvTo t c w k) := by
            unfold lvC at hl
            refine ⟨?_, fun he => ?_⟩
            · rcases hl with hl | hl <;> omega
            · rcases hl with hl | hl
              · omega
              · have := hl.2; omega
          refine ⟨fun h => by omega, fun h => ⟨by omega, fun i hi hc => ?_⟩⟩
          by_cases hik : i = k
          · subst hik; exact ⟨Int.le_refl _, fun _ => Int.le_refl _⟩
          · exact hkb.trans (by omega) g1 hc (g2 i (by omega) hc)
        · rw [lv_4 hp hb hl]
          refine ⟨fun h => by omega, fun h => ⟨g1, fun i hi hc => ?_⟩⟩
          by_cases hik : i = k
          · subst hik
            unfold lvC at hl
            refine ⟨?_, fun he => ?_⟩
            · exact Int.not_lt.1 fun h => hl (.inl h)
            · exact Int.not_lt.1 fun h => hl (.inr ⟨he.symm, h⟩)
          · exact g2 i (by omega) hc
end
/-! ### Sums -/
theorem sm_swap {n m : Nat} {f : Nat → Nat → Int} : sm n (fun j => sm m fun i => f j i) = sm m fun i => sm n fun j => f j i := by
  induction n with
  | zero => simp only [sm]; exact (sm_zero fun _ _ => rfl).symm
  | succ n ih => simp only [sm]; rw [ih, sm_add]
theorem sm_pos : ∀ {n : Nat} {f : Nat → Int}, 0 < sm n f → ∃ i, i < n ∧ 0 < f i
  | 0, _, h => by simp [sm] at h
  | n + 1, f, h => by
    simp only [sm] at h
    by_cases h1 : 0 < f n
    · exact ⟨n, by omega, h1⟩
    · obtain ⟨i, hi, h2⟩ := sm_pos (n := n) (f := f) (by omega)
      exact ⟨i, by omega, h2⟩
theorem sm_nonneg : ∀ {n : Nat} {f : Nat → Int}, (∀ i, i < n → 0 ≤ f i) → 0 ≤ sm n f
  | 0, _, _ => by simp [sm]
  | n + 1, f, h => by
    simp only [sm]
    have := sm_nonneg (n := n) (f := f) fun i hi => h i (by omega)
    have := h n (by omega)
    omega
theorem sm_neg {n : Nat} {f : Nat → Int} : sm n (fun i => -(f i)) = -(sm n f) := by
  have := sm_mul (a := -1) (n := n) (f := f)
  rw [← Int.neg_one_mul, ← this]; exact sm_congr fun i _ => by omega
/-! ### A state of maximize -/
structure MS (p : LPr) (t : Tb) : Prop where
  di : DI p t
  pf : ∀ i : Nat, i < p.rws.length → 0 ≤ cel t i ((ntW p : Int) - 1)
section
variable {p : LPr} {t : Tb} {ob n : Nat}
/-- The next tableau, by Bland's rule. -/
def stp (p : LPr) (ob n : Nat) (t : Tb) : Tb := match entF t ob n with
  | none => t
  | some c => pivF t (lvF t c (ntW p)) c
def Mov (p : LPr) (ob n : Nat) (t : Tb) (c r : Nat) : Prop := Ent t ob n c ∧ lvF t c (ntW p) = (r : Int)
theorem entF_ent {c : Nat} {o : Int} (h : Ent t o n c) : entF t o n = some c := by
  cases he : entF t o n with
  | none => have := entF_none he c h.lt; have := h.hit; omega
  | some d => rw [(entF_some he).uniq h]
theorem Mov.eqn {c r : Nat} (h : Mov p ob n t c r) : stp p ob n t = pivF t r c := by
  unfold Eng.stp; rw [entF_ent h.1]; simp only []; rw [h.2]
/-- All about one step. -/
structure Stp (p : LPr) (ob n : Nat) (t t' : Tb) (c r : Nat) : Prop where
  hr : r < p.rws.length
  hc : c < n
  ms : MS p t'
  pe : PivE p t t' r c 1
  pp : 0 < cel t r c
  neg : cel t ob c < 0
  le : ∀ j : Nat, j < c → 0 ≤ cel t ob j
  bef : ∀ i : Nat, i < p.rws.length → 0 < cel t i c → BefR t c (ntW p) r i
theorem Mov.go {c r : Nat} (hm : MS p t) (hn : n ≤ p.obj.length + p.rws.length + 1) (h : Mov p ob n t c r) : Stp p ob n t (stp p ob n t) c r := by
  have hsp := lv_spec (t := t) (c := (c : Int)) (w := ntW p) (k := t.bs.length)
  have hlv : lvTo t c (ntW p) t.bs.length = (r : Int) := h.2
  have hin := lv_in (t := t) (c := (c : Int)) (w := ntW p) (k := t.bs.length)
  rw [hlv] at hsp hin
  rw [hm.di.bl] at hsp hin
  obtain ⟨hpp, hbef⟩ := hsp.2 (by omega)
  have hr : r < p.rws.length := by omega
  have hcn := h.1.lt
  have hcw : c < ntW p := by unfold ntW; omega
  obtain ⟨hdi, s, hpe⟩ := hm.di.piv hr (c := c) (by omega) (by omega)
  rw [h.eqn]
  have hs : s = 1 := by
    rcases hpe.s1 with h1 | h1
    · exact h1
    · have := hdi.dp; rw [hpe.dn, h1] at this; omega
  subst hs
  refine ⟨hr, hcn, ⟨hdi, fun i hi => ?_⟩, hpe, hpp, h.1.hit, h.1.all, hbef⟩
  have hL : ((ntW p : Int) - 1) = ((ntW p - 1 : Nat) : Int) := by unfold ntW; omega
  have hdp := hm.di.dp
  have hpr := hm.pf r hr
  have hpi := hm.pf i hi
  rw [hL] at hpr hpi ⊢
  by_cases hir : i = r
  · subst hir; rw [hpe.row _ (by unfold ntW; omega)]; omega
  · have he := hpe.oth i (by omega) hir (ntW p - 1) (by unfold ntW; omega)
    have hnn : 0 ≤ cel t i ((ntW p - 1 : Nat) : Int) * cel t r c - cel t i c * cel t r ((ntW p - 1 : Nat) : Int) := by
      by_cases hic : 0 < cel t i c
      · have hb := (hbef i hi hic).1
        rw [hL] at hb
        rw [Int.mul_comm (cel t i c)]; omega
      · have g1 : 0 ≤ cel t i ((ntW p - 1 : Nat) : Int) * cel t r c := Int.mul_nonneg hpi (by omega)
        have g2 : cel t i c * cel t r ((ntW p - 1 : Nat) : Int) ≤ 0 := Int.mul_nonpos_of_nonpos_of_nonneg (by omega) hpr
        omega
    rw [Int.one_mul] at he
    refine Int.not_lt.1 fun hlt => ?_
    have : cel (pivF t r c) i ((ntW p - 1 : Nat) : Int) * t.dn < 0 := Int.mul_neg_of_neg_of_pos hlt hdp
    omega
/-! ### Pigeonholes -/
theorem pigeon : ∀ {K : Nat} {f : Nat → Nat}, (∀ k, f k < K) → ∃ i j, i < j ∧ f i = f j
  | 0, f, h => by have := h 0; omega
  | K + 1, f, h => by
    by_cases h1 : ∃ i, f i = K
    · obtain ⟨i0, hi0⟩ := h1
      by_cases h2 : ∃ j, i0 < j ∧ f j = K
      · obtain ⟨j, hj, hfj⟩ := h2; exact ⟨i0, j, hj, hi0.trans hfj.symm⟩
      · obtain ⟨i, j, hij, he⟩ := pigeon (K := K) (f := fun k => f (k + (i0 + 1))) fun k => by
          have q1 := h (k + (i0 + 1))
          have q2 : f (k + (i0 + 1)) ≠ K := fun e => h2 ⟨_, by omega, e⟩
          show f (k + (i0 + 1)) < K
          omega
        exact ⟨_, _, by omega, he⟩
    · exact pigeon (K := K) fun k => by
        have q1 := h k
        have q2 : f k ≠ K := fun e => h1 ⟨k, e⟩
        omega
theorem maxEx : ∀ {N : Nat} {f : Nat → Nat}, (∀ k, f k < N) → ∃ a, ∀ k, f k ≤ f a
  | 0, f, h => by have := h 0; omega
  | N + 1, f, h => by
    by_cases h1 : ∃ a, f a = N
    · obtain ⟨a, ha⟩ := h1; exact ⟨a, fun k => by have := h k; omega⟩
    · exact maxEx (N := N) fun k => by
        have q1 := h k
        have q2 : f k ≠ N := fun e => h1 ⟨k, e⟩
        omega
theorem flips {Q : Nat → Prop} {a : Nat} : ∀ {d : Nat}, Q a → ¬ Q (a + d) → ∃ b, a ≤ b ∧ b < a + d ∧ Q b ∧ ¬ Q (b + 1)
  | 0, h, h' => absurd h h'
  | d + 1, h, h' => by
    by_cases hd : Q (a + d)
    · exact ⟨a + d, by omega, by omega, hd, h'⟩
    · obtain ⟨b, h1, h2, h3, h4⟩ := flips h hd
      exact ⟨b, h1, by omega, h3, h4⟩
def codeL : List Int → Nat
  | [] => 0
  | x :: l => x.toNat + 16 * codeL l
theorem codeL_inj : ∀ {l l' : List Int}, l.length = l'.length → (∀ x, x ∈ l → 0 ≤ x ∧ x < 16) → (∀ x, x ∈ l' → 0 ≤ x ∧ x < 16) → codeL l = codeL l' → l = l'
  | [], [], _, _, _, _ => rfl
  | [], _ :: _, h, _, _, _ => by simp at h
  | _ :: _, [], h, _, _, _ => by simp at h
  | x :: l, y :: l', h, hx, hy, he => by
    simp only [codeL] at he
    have h1 := hx x (by simp)
    have h2 := hy y (by simp)
    have h3 : x = y := by omega
    subst h3
    have hl : l.length = l'.length := by simpa using h
    have := codeL_inj (l := l) (l' := l') hl (fun z hz => hx z (by simp [hz])) (fun z hz => hy z (by simp [hz])) (by omega)
    rw [this]
theorem codeL_lt : ∀ {l : List Int}, (∀ x, x ∈ l → 0 ≤ x ∧ x < 16) → codeL l < 16 ^ l.length
  | [], _ => by simp [codeL]
  | x :: l, h => by
    have h1 := h x (by simp)
    have h2 := codeL_lt (l := l) fun z hz => h z (by simp [hz])
    simp only [codeL, List.length_cons, Nat.pow_succ]; omega
def Bas (p : LPr) (t : Tb) (x : Int) : Prop := ∃ i : Nat, i < p.rws.length ∧ nth t.bs i = x
/-- No run goes on for ever. -/
theorem bland (hp : LpC p) (hob : p.rws.length ≤ ob) (hob2 : ob < p.rws.length + 2) (hn : n ≤ p.obj.length + p.rws.length + 1) (s : Nat → Tb) (cs rs : Nat → Nat) (hms : ∀ k, MS p (s k)) (hst : ∀ k, Stp p ob n (s k) (s (k + 1)) (cs k) (rs k)) (hdet : ∀ k l, s k = s l → s (k + 1) = s (l + 1)) : False := by
  have hL : ((ntW p : Int) - 1) = ((ntW p - 1 : Nat) : Int) := by unfold ntW; omega
  have hr6 := hp.ok.r6
  have ho6 := hp.ok.o6
  have hin : ∀ k x, x ∈ (s k).bs → 0 ≤ x ∧ x < 16 := fun k x hx => by
    obtain ⟨i, hi, rfl⟩ := List.getElem_of_mem hx
    have hi' : i < p.rws.length := by rw [← (hms k).di.bl]; exact hi
    have := (hms k).di.br i hi'
    rw [nth_eq hi] at this; omega
  obtain ⟨i0, j0, hij, hcode⟩ := pigeon (K := 16 ^ p.rws.length) (f := fun k => codeL (s k).bs) fun k => by
    have := codeL_lt (hin k); rw [(hms k).di.bl] at this; exact this
  have hbs : (s i0).bs = (s j0).bs := codeL_inj ((hms i0).di.bl.trans (hms j0).di.bl.symm) (hin i0) (hin j0) hcode
  have heq : s i0 = s j0 := (hms i0).di.eq (hms j0).di hbs
  -- from i0 on it is periodic
  obtain ⟨P, hP⟩ : ∃ P, P = j0 - i0 := ⟨_, rfl⟩
  have hper : ∀ k, s (i0 + k + P) = s (i0 + k) := fun k => by
    induction k with
    | zero => rw [Nat.add_zero, hP, show i0 + (j0 - i0) = j0 from by omega]; exact heq.symm
    | succ k ih =>
      have := hdet _ _ ih
      rw [show i0 + (k + 1) + P = i0 + k + P + 1 from by omega, show i0 + (k + 1) = i0 + k + 1 from by omega]; exact this
  -- objective: nothing is gained
  have hmono : ∀ k d, cel (s k) ob ((ntW p - 1 : Nat) : Int) * (s (k + d)).dn ≤ cel (s (k + d)) ob ((ntW p - 1 : Nat) : Int) * (s k).dn := fun k d => by
    induction d with
    | zero => exact Int.le_refl _
    | succ d ih =>
      refine rat_le (hms k).di.dp (hms (k + d)).di.dp (hms (k + (d + 1))).di.dp ih ?_
      have h := hst (k + d)
      have ho := h.pe.oth ob hob2 (by have := h.hr; omega) (ntW p - 1) (by unfold ntW; omega)
      have hpf := (hms (k + d)).pf (rs (k + d)) h.hr
      rw [hL] at hpf
      show cel (s (k + d)) ob _ * (s (k + d + 1)).dn ≤ cel (s (k + d + 1)) ob _ * (s (k + d)).dn
      rw [ho, h.pe.dn, Int.one_mul, Int.one_mul]
      have := Int.mul_nonpos_of_nonpos_of_nonneg (Int.le_of_lt h.neg) hpf
      omega
  have hdeg : ∀ k, cel (s (i0 + k)) (rs (i0 + k)) ((ntW p - 1 : Nat) : Int) = 0 := fun k => by
    have h := hst (i0 + k)
    have ho := h.pe.oth ob hob2 (by have := h.hr; omega) (ntW p - 1) (by unfold ntW; omega)
    have hpf := (hms (i0 + k)).pf (rs (i0 + k)) h.hr
    rw [hL] at hpf
    have hm := hmono (i0 + k + 1) (P - 1)
    have e : i0 + k + 1 + (P - 1) = i0 + k + P := by omega
    rw [e, hper k] at hm
    rw [ho, h.pe.dn, Int.one_mul, Int.one_mul] at hm
    refine Int.le_antisymm (Int.not_lt.1 fun hlt => ?_) hpf
    have := Int.mul_neg_of_neg_of_pos h.neg hlt
    omega
  -- the greatest variable that enters
  obtain ⟨a, ha⟩ := maxEx (N := n) (f := fun k => cs (i0 + k)) fun k => (hst (i0 + k)).hc
  have hnb : ∀ k, ¬ Bas p (s k) (cs k) := fun k ⟨i, hi, he⟩ => by
    have h1 := (hms k).di.unit (i := ob) hob2 hi
    rw [he, if_neg (by omega)] at h1
    have := (hst k).neg; omega
  have hent : ∀ k x, ¬ Bas p (s k) x → Bas p (s (k + 1)) x → x = (cs k : Int) := fun k x hx ⟨i, hi, he⟩ => by
    rw [(hst k).pe.bs, nth_set (by omega) (by rw [(hms k).di.bl]; omega)] at he
    split at he
    · exact he.symm
    · exact absurd ⟨i, hi, he⟩ hx
  have hba : Bas p (s (i0 + a + 1)) (cs (i0 + a)) := ⟨rs (i0 + a), (hst (i0 + a)).hr, by
    rw [(hst (i0 + a)).pe.bs, nth_set (by omega) (by rw [(hms (i0 + a)).di.bl]; have := (hst (i0 + a)).hr; omega), if_pos (by omega)]⟩
  have hnP : ¬ Bas p (s (i0 + a + 1 + (P - 1))) (cs (i0 + a)) := by
    rw [show i0 + a + 1 + (P - 1) = i0 + a + P from by omega, hper a]; exact hnb (i0 + a)
  obtain ⟨b, hb1, hb2, hb3, hb4⟩ := flips (Q := fun k => Bas p (s k) (cs (i0 + a))) hba hnP
  -- at b it leaves
  obtain ⟨ib, hib, hbb⟩ := hb3
  have hrb : ib = rs b := by
    refine Classical.byContradiction fun hne => hb4 ⟨ib, hib, ?_⟩
    rw [(hst b).pe.bs, nth_set (by omega) (by rw [(hms b).di.bl]; omega), if_neg (by omega)]; exact hbb
  subst hrb
  obtain ⟨kb, hkb⟩ : ∃ kb, b = i0 + kb := ⟨b - i0, by omega⟩
  have hsb := hst b
  have hsa := hst (i0 + a)
  have hcb : cs b < cs (i0 + a) := by
    have h1 : cs (i0 + kb) ≤ cs (i0 + a) := ha kb
    rw [← hkb] at h1
    rcases Nat.lt_or_ge (cs b) (cs (i0 + a)) with h | h
    · exact h
    · have : cs b = cs (i0 + a) := by omega
      exact absurd ⟨rs b, hib, by rw [hbb, this]⟩ (hnb b)
  -- a direction
  obtain ⟨z, hz⟩ : ∃ z : Nat → Int, z = fun j => (if j = cs b then (s b).dn else 0) + sm p.rws.length fun i => if nth (s b).bs i = (j : Int) then -(cel (s b) i (cs b)) else 0 := ⟨_, rfl⟩
  have hcbw : cs b < ntW p := by have := hsb.hc; unfold ntW; omega
  have hdot : ∀ g : Nat → Int, sm (ntW p) (fun j => g j * z j) = g (cs b) * (s b).dn + sm p.rws.length fun i => -(g (nth (s b).bs i).toNat * cel (s b) i (cs b)) := fun g => by
    have e1 : ∀ j, j < ntW p → g j * z j = (if j = cs b then g (cs b) * (s b).dn else 0) + sm p.rws.length fun i => if nth (s b).bs i = (j : Int) then -(g j * cel (s b) i (cs b)) else 0 := fun j hj => by
      rw [hz]
      simp only []
      rw [Int.mul_add, ← sm_mul]
      congr 1
      · split
        · rename_i h; rw [h]
        · exact Int.mul_zero _
      · refine sm_congr fun i _ => ?_
        split
        · rw [Int.mul_neg]
        · exact Int.mul_zero _
    rw [sm_congr e1, sm_add, sm_swap, sm_one hcbw (fun j _ hj => if_neg hj), if_pos rfl]
    congr 1
    refine sm_congr fun i hi => ?_
    have hbr := (hms b).di.br i hi
    rw [sm_one (i0 := (nth (s b).bs i).toNat) (by unfold ntW; omega) (fun j _ hj => if_neg (fun e => hj (by omega))), if_pos (by omega)]
  obtain ⟨E, hE⟩ : ∃ E : Nat → Int, E = fun i => if i < p.rws.length then 0 else -(cel (s b) i (cs b)) := ⟨_, rfl⟩
  have hEl : ∀ i, i < p.rws.length → E i = 0 := fun i hi => by rw [hE]; exact if_pos hi
  have hEg : ∀ i, p.rws.length ≤ i → E i = -(cel (s b) i (cs b)) := fun i hi => by rw [hE]; exact if_neg (by omega)
  have hhb : Hom p (s b) z E := fun i hi => by
    rw [hdot (fun j => cel (s b) i j)]
    by_cases him : i < p.rws.length
    · rw [hEl i him, Int.mul_zero, Int.zero_add]
      rw [sm_one him (fun k hk hki => by
        have hbr := (hms b).di.br k hk
        rw [Int.toNat_of_nonneg hbr.1, (hms b).di.unit hi hk, if_neg (fun e => hki e.symm), Int.zero_mul]; rfl)]
      have hbr := (hms b).di.br i him
      rw [Int.toNat_of_nonneg hbr.1, (hms b).di.unit hi him, if_pos rfl, Int.mul_comm (cel (s b) i (cs b))]; omega
    · rw [hEg i (by omega), sm_zero (fun k hk => by
        have hbr := (hms b).di.br k hk
        rw [Int.toNat_of_nonneg hbr.1, (hms b).di.unit hi hk, if_neg (by omega), Int.zero_mul]; rfl), Int.mul_neg, Int.mul_comm (cel (s b) i (cs b))]; omega
  have hhom : ∀ d, Hom p (s (i0 + a)) z E ↔ Hom p (s (i0 + a + d)) z E := fun d => by
    induction d with
    | zero => exact Iff.rfl
    | succ d ih =>
      have h := hst (i0 + a + d)
      exact ih.trans (Hom.piv (hms (i0 + a + d)).di h.hr (by have := h.pp; omega) h.pe (hEl _ h.hr))
  have hha : Hom p (s (i0 + a)) z E := (hhom (b - (i0 + a))).2 (by rw [show i0 + a + (b - (i0 + a)) = b from by omega]; exact hhb)
  have h1 := hha ob hob2
  rw [hEg ob hob, hdot (fun j => cel (s (i0 + a)) ob j)] at h1
  rw [sm_neg] at h1
  have hsum : 0 < sm p.rws.length fun i => cel (s (i0 + a)) ob ((nth (s b).bs i).toNat : Nat) * cel (s b) i (cs b) := by
    have g1 : 0 < (s (i0 + a)).dn * -(cel (s b) ob (cs b)) := Int.mul_pos (hms (i0 + a)).di.dp (by have := hsb.neg; omega)
    have g2 : 0 ≤ cel (s (i0 + a)) ob (cs b) * (s b).dn := Int.mul_nonneg (hsa.le (cs b) hcb) (Int.le_of_lt (hms b).di.dp)
    omega
  obtain ⟨i, hi, hpos⟩ := sm_pos hsum
  have hbri := (hms b).di.br i hi
  rw [Int.toNat_of_nonneg hbri.1] at hpos
  -- the variable u of that row
  have hune : cel (s (i0 + a)) ob (nth (s b).bs i) ≠ 0 := fun e => by rw [e, Int.zero_mul] at hpos; omega
  have hunb : ¬ Bas p (s (i0 + a)) (nth (s b).bs i) := fun ⟨k, hk, he⟩ => by
    have := (hms (i0 + a)).di.unit (i := ob) hob2 hk
    rw [he, if_neg (by omega)] at this; exact hune this
  have hule : nth (s b).bs i ≤ (cs (i0 + a) : Int) := by
    obtain ⟨k, hk1, hk2, hk3, hk4⟩ := flips (Q := fun k => ¬ Bas p (s k) (nth (s b).bs i)) (a := i0 + a) (d := b - (i0 + a)) hunb (fun h => h (by rw [show i0 + a + (b - (i0 + a)) = b from by omega]; exact ⟨i, hi, rfl⟩))
    have := hent k _ hk3 (Classical.not_not.1 hk4)
    rw [this]
    have h2 : cs (i0 + (k - i0)) ≤ cs (i0 + a) := ha (k - i0)
    rw [show i0 + (k - i0) = k from by omega] at h2
    omega
  by_cases hut : nth (s b).bs i = (cs (i0 + a) : Int)
  · have : i = rs b := (hms b).di.inj hi hib (hut.trans hbb.symm)
    subst this
    rw [hut] at hpos
    have := Int.mul_neg_of_neg_of_pos hsa.neg hsb.pp
    omega
  · -- its value is 0
    obtain ⟨u, hu⟩ := Int.eq_ofNat_of_zero_le hbri.1
    have hua : 0 ≤ cel (s (i0 + a)) ob (nth (s b).bs i) := by rw [hu]; exact hsa.le u (by omega)
    have hib0 : 0 < cel (s b) i (cs b) := by
      refine Int.not_le.1 fun hle => ?_
      have := Int.mul_nonpos_of_nonneg_of_nonpos hua hle
      omega
    have hval : ∀ d, ∀ k : Nat, k < p.rws.length → nth (s (i0 + a + d)).bs k = nth (s b).bs i → cel (s (i0 + a + d)) k ((ntW p - 1 : Nat) : Int) = 0 := fun d => by
      induction d with
      | zero => intro k hk he; exact absurd ⟨k, hk, he⟩ hunb
      | succ d ih =>
        intro k hk he
        have h := hst (i0 + a + d)
        have hd0 := hdeg (a + d)
        rw [show i0 + (a + d) = i0 + a + d from by omega] at hd0
        show cel (s (i0 + a + d + 1)) k _ = 0
        have he' : nth (s (i0 + a + d + 1)).bs k = nth (s b).bs i := he
        by_cases hkr : k = rs (i0 + a + d)
        · subst hkr; rw [h.pe.row _ (by unfold ntW; omega), hd0, Int.mul_zero]
        · rw [h.pe.bs, nth_set (by omega) (by rw [(hms (i0 + a + d)).di.bl]; omega), if_neg (by omega)] at he'
          have ho := h.pe.oth k (by omega) hkr (ntW p - 1) (by unfold ntW; omega)
          rw [ih k hk he', hd0, Int.zero_mul, Int.mul_zero, Int.sub_zero, Int.mul_zero] at ho
          exact (Int.mul_eq_zero.1 ho).resolve_right (by have := (hms (i0 + a + d)).di.dp; omega)
    have hv := hval (b - (i0 + a)) i hi (by rw [show i0 + a + (b - (i0 + a)) = b from by omega])
    rw [show i0 + a + (b - (i0 + a)) = b from by omega] at hv
    have hd0 := hdeg kb
    rw [← hkb] at hd0
    have hbef := hsb.bef i hi hib0
    unfold BefR Bef at hbef
    rw [hL, hv, hd0] at hbef
    have := hbef.2 (by rw [Int.zero_mul, Int.zero_mul])
    rw [hbb] at this
    omega
end
end Go.Eng
end

section
/- What the simplex method finds. -/

set_option linter.unusedSimpArgs false
set_option linter.unnecessarySimpa false
set_option linter.unusedVariables false
set_option linter.unusedSectionVars false
namespace Go.Eng
section
variable {p : LPr} {t : Tb} {ob n : Nat}
theorem ntW_eq (p : LPr) : ntW p = p.obj.length + p.rws.length + 1 + 1 := rfl
/-! ### The rows of the first tableau -/
theorem hom_row {z E : Nat → Int} (h : Hom p (newTab p) z E) {i : Nat} (hi : i < p.rws.length) (hE : E i = 0) :
    sm p.obj.length (fun j => nth (nth p.rws i) j * z j) + z (p.obj.length + i) - z (p.obj.length + p.rws.length) + nth p.bnd i * z (p.obj.length + p.rws.length + 1) = 0 := by
  have h1 := h i (by omega)
  rw [hE, Int.mul_zero, Int.zero_add, ntW_eq] at h1
  simp only [sm] at h1
  rw [sm_split] at h1
  rw [sm_congr (n := p.obj.length) (g := fun j => nth (nth p.rws i) j * z j) (fun j hj => by rw [cel_new hi (by unfold ntW; omega), if_pos hj])] at h1
  rw [sm_one (i0 := i) hi (fun k hk hki => by rw [cel_new hi (by unfold ntW; omega), if_neg (by omega), if_neg (by omega), if_neg (by omega), if_neg (by omega), Int.zero_mul])] at h1
  rw [cel_new hi (by unfold ntW; omega), if_neg (by omega), if_pos rfl, cel_new hi (by unfold ntW; omega), if_neg (by omega), if_neg (by omega), if_pos rfl, cel_new hi (by unfold ntW; omega), if_neg (by omega), if_neg (by omega), if_neg (by omega), if_pos rfl] at h1
  omega
theorem hom_goal {z E : Nat → Int} (h : Hom p (newTab p) z E) : E p.rws.length = sm p.obj.length fun j => nth p.obj j * z j := by
  have h1 := h p.rws.length (by omega)
  have hd : (newTab p).dn = 1 := rfl
  rw [hd, Int.one_mul, ntW_eq, show p.obj.length + p.rws.length + 1 + 1 = p.obj.length + (p.rws.length + 2) from by omega, sm_split] at h1
  rw [sm_congr (n := p.obj.length) (g := fun j => -(nth p.obj j * z j)) (fun j hj => by rw [cel_goal (by unfold ntW; omega), if_pos hj, Int.neg_mul]), sm_neg] at h1
  rw [sm_zero (n := p.rws.length + 2) (fun k hk => by rw [cel_goal (by unfold ntW; omega), if_neg (by omega), Int.zero_mul])] at h1
  omega
theorem hom_art {z E : Nat → Int} (h : Hom p (newTab p) z E) : E (p.rws.length + 1) = -(z (p.obj.length + p.rws.length)) := by
  have h1 := h (p.rws.length + 1) (by omega)
  have hd : (newTab p).dn = 1 := rfl
  rw [hd, Int.one_mul] at h1
  rw [sm_one (i0 := p.obj.length + p.rws.length) (by unfold ntW; omega) (fun k hk hki => by rw [cel_art hk, if_neg hki, Int.zero_mul]), cel_art (by unfold ntW; omega), if_pos rfl] at h1
  omega
/-- A solution out of values for the variables. -/
theorem hom_of {z E : Nat → Int} (hE : ∀ i, i < p.rws.length → E i = 0) (h1 : ∀ i : Nat, i < p.rws.length → sm p.obj.length (fun j => nth (nth p.rws i) j * z j) + z (p.obj.length + i) - z (p.obj.length + p.rws.length) + nth p.bnd i * z (p.obj.length + p.rws.length + 1) = 0)
    (h2 : E p.rws.length = sm p.obj.length fun j => nth p.obj j * z j) (h3 : E (p.rws.length + 1) = -(z (p.obj.length + p.rws.length))) : Hom p (newTab p) z E := by
  intro i hi
  have hd : (newTab p).dn = 1 := rfl
  rw [hd, Int.one_mul]
  by_cases hi1 : i < p.rws.length
  · have := h1 i hi1
    rw [hE i hi1, ntW_eq]
    simp only [sm]
    rw [sm_split]
    rw [sm_congr (n := p.obj.length) (g := fun j => nth (nth p.rws i) j * z j) (fun j hj => by rw [cel_new hi1 (by unfold ntW; omega), if_pos hj])]
    rw [sm_one (i0 := i) hi1 (fun k hk hki => by rw [cel_new hi1 (by unfold ntW; omega), if_neg (by omega), if_neg (by omega), if_neg (by omega), if_neg (by omega), Int.zero_mul])]
    rw [cel_new hi1 (by unfold ntW; omega), if_neg (by omega), if_pos rfl, cel_new hi1 (by unfold ntW; omega), if_neg (by omega), if_neg (by omega), if_pos rfl, cel_new hi1 (by unfold ntW; omega), if_neg (by omega), if_neg (by omega), if_neg (by omega), if_pos rfl]
    omega
  · by_cases hi2 : i = p.rws.length
    · subst hi2
      rw [h2, ntW_eq, show p.obj.length + p.rws.length + 1 + 1 = p.obj.length + (p.rws.length + 2) from by omega, sm_split]
      rw [sm_congr (n := p.obj.length) (g := fun j => -(nth p.obj j * z j)) (f := fun j => cel (newTab p) p.rws.length j * z j) (fun j hj => by rw [cel_goal (by unfold ntW; omega), if_pos hj, Int.neg_mul]), sm_neg]
      rw [sm_zero (n := p.rws.length + 2) (fun k hk => by rw [cel_goal (by unfold ntW; omega), if_neg (by omega), Int.zero_mul])]
      omega
    · obtain rfl : i = p.rws.length + 1 := by omega
      rw [sm_one (i0 := p.obj.length + p.rws.length) (by unfold ntW; omega) (fun k hk hki => by rw [cel_art hk, if_neg hki, Int.zero_mul]), cel_art (by unfold ntW; omega), if_pos rfl, h3]
      omega
/-! ### The direction of a column -/
def dirZ (p : LPr) (t : Tb) (c : Nat) : Nat → Int := fun j => (if j = c then t.dn else 0) + sm p.rws.length fun i => if nth t.bs i = (j : Int) then -(cel t i c) else 0
def dirE (p : LPr) (t : Tb) (c : Nat) : Nat → Int := fun i => if i < p.rws.length then 0 else -(cel t i c)
theorem dir_hom (h : DI p t) {c : Nat} (hc : c < ntW p) : Hom p t (dirZ p t c) (dirE p t c) := by
  have hdot : ∀ g : Nat → Int, sm (ntW p) (fun j => g j * dirZ p t c j) = g c * t.dn + sm p.rws.length fun i => -(g (nth t.bs i).toNat * cel t i c) := fun g => by
    have e1 : ∀ j, j < ntW p → g j * dirZ p t c j = (if j = c then g c * t.dn else 0) + sm p.rws.length fun i => if nth t.bs i = (j : Int) then -(g j * cel t i c) else 0 := fun j hj => by
      unfold dirZ
      rw [Int.mul_add, ← sm_mul]
      congr 1
      · split
        · rename_i h; rw [h]
        · exact Int.mul_zero _
      · refine sm_congr fun i _ => ?_
        split
        · rw [Int.mul_neg]
        · exact Int.mul_zero _
    rw [sm_congr e1, sm_add, sm_swap, sm_one hc (fun j _ hj => if_neg hj), if_pos rfl]
    congr 1
    refine sm_congr fun i hi => ?_
    have hbr := h.br i hi
    rw [sm_one (i0 := (nth t.bs i).toNat) (by unfold ntW; omega) (fun j _ hj => if_neg (fun e => hj (by omega))), if_pos (by omega)]
  intro i hi
  rw [hdot (fun j => cel t i j)]
  unfold dirE
  by_cases him : i < p.rws.length
  · rw [if_pos him, Int.mul_zero, Int.zero_add]
    rw [sm_one him (fun k hk hki => by
      have hbr := h.br k hk
      rw [Int.toNat_of_nonneg hbr.1, h.unit hi hk, if_neg (fun e => hki e.symm), Int.zero_mul]; rfl)]
    have hbr := h.br i him
    rw [Int.toNat_of_nonneg hbr.1, h.unit hi him, if_pos rfl, Int.mul_comm (cel t i c)]; omega
  · rw [if_neg him, sm_zero (fun k hk => by
      have hbr := h.br k hk
      rw [Int.toNat_of_nonneg hbr.1, h.unit hi hk, if_neg (by omega), Int.zero_mul]; rfl), Int.mul_neg, Int.mul_comm (cel t i c)]; omega
theorem dir_nn (h : DI p t) {c : Nat} (hle : ∀ i : Nat, i < p.rws.length → cel t i c ≤ 0) {j : Nat} : 0 ≤ dirZ p t c j := by
  unfold dirZ
  have h1 := sm_nonneg (n := p.rws.length) (f := fun i => if nth t.bs i = (j : Int) then -(cel t i c) else 0) fun i hi => by
    split
    · have := hle i hi; omega
    · omega
  have := h.dp
  split <;> omega
/-! ### maximize ends -/
def itr (f : Tb → Tb) : Nat → Tb → Tb
  | 0, t => t
  | k + 1, t => itr f k (f t)
theorem itr_s {f : Tb → Tb} : ∀ {k : Nat} {t : Tb}, itr f (k + 1) t = f (itr f k t)
  | 0, _ => rfl
  | k + 1, t => by
    show itr f (k + 1) (f t) = f (itr f k (f t))
    exact itr_s
def MEnd (p : LPr) (ob n : Nat) (t' : Tb) (x : Int) : Prop := (x = -1 ∧ ∀ j : Nat, j < n → 0 ≤ cel t' ob j) ∨ ∃ c : Nat, c < n ∧ cel t' ob c < 0 ∧ x = (c : Int) ∧ ∀ i : Nat, i < p.rws.length → cel t' i c ≤ 0
theorem max_stop (hm : MS p t) (hno : ¬ ∃ c r, Mov p ob n t c r) : ∃ x, (∀ hb : Bnd t, MaxN (ntW p) ob n 0 t t x) ∧ MEnd p ob n t x := by
  cases he : entF t ob n with
  | none => exact ⟨-1, fun hb => .opt hb (entF_none he), .inl ⟨rfl, entF_none he⟩⟩
  | some c =>
    have hE := entF_some he
    have hl : lvF t c (ntW p) < 0 := by
      refine Int.not_le.1 fun h => hno ⟨c, (lvF t c (ntW p)).toNat, hE, by omega⟩
    refine ⟨c, fun hb => .unb hb hE hl, .inr ⟨c, hE.lt, hE.hit, rfl, fun i hi => ?_⟩⟩
    exact (lv_spec (t := t) (c := (c : Int)) (w := ntW p) (k := t.bs.length)).1 hl i (by rw [hm.di.bl]; exact hi)
theorem max_ends (hp : LpC p) (hob : p.rws.length ≤ ob) (hob2 : ob < p.rws.length + 2) (hn : n ≤ p.obj.length + p.rws.length + 1) (I : Tb → Prop) (hI : ∀ t t' c r, MS p t → I t → Stp p ob n t t' c r → I t') (hm : MS p t) (hi : I t) :
    ∃ k t' x, MaxN (ntW p) ob n k t t' x ∧ MS p t' ∧ I t' ∧ MEnd p ob n t' x := by
  -- somewhere it stops
  have hstop : ∃ k, ¬ ∃ c r, Mov p ob n (itr (stp p ob n) k t) c r := by
    refine Classical.byContradiction fun hc => ?_
    have hmv : ∀ k, ∃ c r, Mov p ob n (itr (stp p ob n) k t) c r := fun k => Classical.byContradiction fun h => hc ⟨k, h⟩
    have hms : ∀ k, MS p (itr (stp p ob n) k t) := fun k => by
      induction k with
      | zero => exact hm
      | succ k ih =>
        obtain ⟨c, r, h⟩ := hmv k
        rw [itr_s]; exact (h.go ih hn).ms
    have h2 : ∀ k, ∃ cr : Nat × Nat, Mov p ob n (itr (stp p ob n) k t) cr.1 cr.2 := fun k => let ⟨c, r, h⟩ := hmv k; ⟨(c, r), h⟩
    obtain ⟨f, hf⟩ := Classical.axiomOfChoice h2
    exact bland hp hob hob2 hn (fun k => itr (stp p ob n) k t) (fun k => (f k).1) (fun k => (f k).2) hms (fun k => by
      show Stp p ob n _ (itr (stp p ob n) (k + 1) t) _ _
      rw [itr_s]; exact (hf k).go (hms k) hn) (fun k l he => by
      show itr (stp p ob n) (k + 1) t = itr (stp p ob n) (l + 1) t
      rw [itr_s, itr_s]; exact congrArg _ he)
  obtain ⟨k, hk⟩ := hstop
  have key : ∀ (k : Nat) (t : Tb), MS p t → I t → (¬ ∃ c r, Mov p ob n (itr (stp p ob n) k t) c r) → ∃ k t' x, MaxN (ntW p) ob n k t t' x ∧ MS p t' ∧ I t' ∧ MEnd p ob n t' x := by
    intro k
    induction k with
    | zero =>
      intro t hm hi hk
      obtain ⟨x, h1, h2⟩ := max_stop hm hk
      exact ⟨0, t, x, h1 (hm.di.small hp), hm, hi, h2⟩
    | succ k ih =>
      intro t hm hi hk
      by_cases hmv : ∃ c r, Mov p ob n t c r
      · obtain ⟨c, r, hcr⟩ := hmv
        have hs := hcr.go hm hn
        obtain ⟨k', t', x, h1, h2, h3, h4⟩ := ih (stp p ob n t) hs.ms (hI _ _ _ _ hm hi hs) hk
        refine ⟨k' + 1, t', x, .step (hm.di.small hp) hcr.1 (by rw [hcr.2]; omega) ?_, h2, h3, h4⟩
        rw [hcr.2, ← hcr.eqn]; exact h1
      · obtain ⟨x, h1, h2⟩ := max_stop hm hmv
        exact ⟨0, t, x, h1 (hm.di.small hp), hm, hi, h2⟩
  exact key k t hm hi hk
/-- Solutions are those of the first tableau. -/
def Same (p : LPr) (t : Tb) : Prop := ∀ z E : Nat → Int, (∀ i, i < p.rws.length → E i = 0) → (Hom p (newTab p) z E ↔ Hom p t z E)
theorem Same.new : Same p (newTab p) := fun _ _ _ => Iff.rfl
theorem Same.piv {t' : Tb} {r c : Nat} {s : Int} (h : Same p t) (hd : DI p t) (hr : r < p.rws.length) (hp : cel t r c ≠ 0) (he : PivE p t t' r c s) : Same p t' := fun z E hE => (h z E hE).trans (Hom.piv hd hr hp he (hE r hr))
theorem Same.stp {t' : Tb} {r c : Nat} (h : Same p t) (hm : MS p t) (hs : Stp p ob n t t' c r) : Same p t' := h.piv hm.di hs.hr (by have := hs.pp; omega) hs.pe
theorem dirE_0 {c : Nat} : ∀ i, i < p.rws.length → dirE p t c i = 0 := fun i hi => by unfold dirE; rw [if_pos hi]
theorem dirE_1 {c i : Nat} (hi : p.rws.length ≤ i) : dirE p t c i = -(cel t i c) := by unfold dirE; rw [if_neg (by omega)]
/-- Neither objective can grow for ever. -/
theorem not_unb (hp : LpC p) (hs : Same p t) (hm : MS p t) (hob : ob = p.rws.length ∨ ob = p.rws.length + 1) (hn : n ≤ p.obj.length + p.rws.length + 1) {x : Int} (h : MEnd p ob n t x) : x = -1 ∧ ∀ j : Nat, j < n → 0 ≤ cel t ob j := by
  rcases h with h | ⟨c, hc, hneg, hx, hle⟩
  · exact h
  · exfalso
    have hh := (hs _ _ dirE_0).2 (dir_hom hm.di (c := c) (by unfold ntW; omega))
    rcases hob with rfl | rfl
    · have h1 := hom_goal hh
      rw [dirE_1 (Nat.le_refl _)] at h1
      have h2 := sm_nonneg (n := p.obj.length) (f := fun j => -(nth p.obj j * dirZ p t c j)) fun j hj => by
        have := Int.mul_nonpos_of_nonpos_of_nonneg (hp.o j hj).2 (dir_nn hm.di hle (j := j))
        omega
      rw [sm_neg] at h2
      omega
    · have h1 := hom_art hh
      rw [dirE_1 (by omega)] at h1
      have := dir_nn hm.di hle (j := p.obj.length + p.rws.length)
      omega
end
end Go.Eng
end

section
/- What the simplex method finds, part 2: the start, the end. -/

set_option linter.unusedSimpArgs false
set_option linter.unnecessarySimpa false
set_option linter.unusedVariables false
set_option linter.unusedSectionVars false
namespace Go.Eng
section
variable {p : LPr} {t : Tb}
theorem lo_spec {w : Nat} : ∀ {k : Nat}, (loTo t w k < 0 → ∀ i : Nat, i < k → 0 ≤ cel t i ((w : Int) - 1)) ∧ (0 ≤ loTo t w k → cel t (loTo t w k) ((w : Int) - 1) < 0 ∧ ∀ i : Nat, i < k → cel t (loTo t w k) ((w : Int) - 1) ≤ cel t i ((w : Int) - 1))
  | 0 => ⟨fun _ i hi => by omega, fun h => by simp [loTo] at h⟩
  | k + 1 => by
    obtain ⟨h1, h2⟩ := lo_spec (w := w) (k := k)
    by_cases hc : loC t w (loTo t w k) k
    · rw [lo_t hc]
      refine ⟨fun h => by omega, fun _ => ⟨hc.1, fun i hi => ?_⟩⟩
      by_cases hik : i = k
      · subst hik; exact Int.le_refl _
      · have hc1 := hc.1
        rcases hc.2 with hb | hb
        · have := h1 hb i (by omega); omega
        · by_cases hb0 : loTo t w k < 0
          · have := h1 hb0 i (by omega); omega
          · have := (h2 (by omega)).2 i (by omega); omega
    · rw [lo_f hc]
      have hk : loTo t w k < 0 → 0 ≤ cel t k ((w : Int) - 1) := fun hb => Int.not_lt.1 fun h => hc ⟨h, .inl hb⟩
      refine ⟨fun h i hi => ?_, fun h => ⟨(h2 h).1, fun i hi => ?_⟩⟩
      · by_cases hik : i = k
        · subst hik; exact hk h
        · exact h1 h i (by omega)
      · by_cases hik : i = k
        · subst hik
          refine Int.not_lt.1 fun hlt => hc ⟨?_, .inr hlt⟩
          have := (h2 h).1; omega
        · exact (h2 h).2 i (by omega)
/-! ### Points -/
structure Pt (p : LPr) (x : Nat → Int) (d : Int) : Prop where
  dp : 0 < d
  nn : ∀ j : Nat, j < p.obj.length → 0 ≤ x j
  row : ∀ i : Nat, i < p.rws.length → sm p.obj.length (fun j => nth (nth p.rws i) j * x j) ≤ nth p.bnd i * d
def lval (p : LPr) (x : Nat → Int) : Int := sm p.obj.length fun j => nth p.obj j * x j
def ptZ (p : LPr) (x : Nat → Int) (d : Int) : Nat → Int := fun j => if j < p.obj.length then x j else if j < p.obj.length + p.rws.length then nth p.bnd ((j - p.obj.length : Nat) : Int) * d - sm p.obj.length (fun k => nth (nth p.rws ((j - p.obj.length : Nat) : Int)) k * x k) else if j = p.obj.length + p.rws.length then 0 else -d
theorem Pt.hom {x : Nat → Int} {d : Int} : Hom p (newTab p) (ptZ p x d) (fun i => if i = p.rws.length then lval p x else 0) := by
  refine hom_of (fun i hi => if_neg (by omega)) (fun i hi => ?_) ?_ ?_
  · rw [sm_congr (g := fun j => nth (nth p.rws i) j * x j) (fun j hj => by unfold ptZ; rw [if_pos hj])]
    have e1 : ptZ p x d (p.obj.length + i) = nth p.bnd i * d - sm p.obj.length (fun k => nth (nth p.rws i) k * x k) := by
      unfold ptZ; rw [if_neg (by omega), if_pos (by omega), show p.obj.length + i - p.obj.length = i from by omega]
    have e2 : ptZ p x d (p.obj.length + p.rws.length) = 0 := by unfold ptZ; rw [if_neg (by omega), if_neg (by omega), if_pos rfl]
    have e3 : ptZ p x d (p.obj.length + p.rws.length + 1) = -d := by unfold ptZ; rw [if_neg (by omega), if_neg (by omega), if_neg (by omega)]
    rw [e1, e2, e3, Int.mul_neg]; omega
  · rw [if_pos rfl]
    exact sm_congr fun j hj => by unfold ptZ; rw [if_pos hj]
  · rw [if_neg (by omega)]
    unfold ptZ; rw [if_neg (by omega), if_neg (by omega), if_pos rfl]; rfl
theorem Pt.zn {x : Nat → Int} {d : Int} (h : Pt p x d) {j : Nat} (hj : j < p.obj.length + p.rws.length + 1) : 0 ≤ ptZ p x d j := by
  unfold ptZ
  by_cases h1 : j < p.obj.length
  · rw [if_pos h1]; exact h.nn j h1
  · by_cases h2 : j < p.obj.length + p.rws.length
    · rw [if_neg h1, if_pos h2]; have := h.row (j - p.obj.length) (by omega); omega
    · rw [if_neg h1, if_neg h2, if_pos (by omega)]; exact Int.le_refl _
/-- The equation of an objective row at a point. -/
theorem Pt.eqn {x : Nat → Int} {d : Int} (hs : Same p t) {i : Nat} (hi : p.rws.length ≤ i) (hi2 : i < p.rws.length + 2) :
    t.dn * (if i = p.rws.length then lval p x else 0) + sm (p.obj.length + p.rws.length) (fun j => cel t i j * ptZ p x d j) - cel t i ((ntW p : Int) - 1) * d = 0 := by
  have h := (hs _ _ (fun k hk => if_neg (by omega))).1 (Pt.hom (p := p) (x := x) (d := d)) i hi2
  rw [ntW_eq] at h
  simp only [sm] at h
  have e2 : ptZ p x d (p.obj.length + p.rws.length) = 0 := by unfold ptZ; rw [if_neg (by omega), if_neg (by omega), if_pos rfl]
  have e3 : ptZ p x d (p.obj.length + p.rws.length + 1) = -d := by unfold ptZ; rw [if_neg (by omega), if_neg (by omega), if_neg (by omega)]
  rw [e2, e3, Int.mul_zero, Int.mul_neg] at h
  have e4 : ((ntW p : Int) - 1) = ((p.obj.length + p.rws.length + 1 : Nat) : Int) := by unfold ntW; omega
  rw [e4]; omega
/-- The point of a tableau without the artificial variable. -/
theorem base_pt (hp : LpC p) (hs : Same p t) (hm : MS p t) (hna : ∀ k : Nat, k < p.rws.length → nth t.bs k ≠ (p.obj.length : Int) + p.rws.length) : ∃ x, Pt p x t.dn ∧ lval p x = cel t p.rws.length ((ntW p : Int) - 1) := by
  have e4 : ((ntW p : Int) - 1) = ((p.obj.length + p.rws.length + 1 : Nat) : Int) := by unfold ntW; omega
  have hh := (hs _ _ dirE_0).2 (dir_hom hm.di (c := p.obj.length + p.rws.length + 1) (by unfold ntW; omega))
  obtain ⟨z, hz⟩ : ∃ z, z = dirZ p t (p.obj.length + p.rws.length + 1) := ⟨_, rfl⟩
  rw [← hz] at hh
  have hzn : ∀ j, j < p.obj.length + p.rws.length + 1 → z j ≤ 0 := fun j hj => by
    rw [hz]; unfold dirZ
    rw [if_neg (by omega)]
    have := sm_nonneg (n := p.rws.length) (f := fun i => -(if nth t.bs i = (j : Int) then -(cel t i ((p.obj.length + p.rws.length + 1 : Nat) : Int)) else 0)) fun i hi => by
      have := hm.pf i hi
      rw [e4] at this
      split <;> omega
    rw [sm_neg] at this; omega
  have hza : z (p.obj.length + p.rws.length) = 0 := by
    rw [hz]; unfold dirZ
    rw [if_neg (by omega), sm_zero (fun i hi => if_neg (by have := hna i hi; omega))]; rfl
  have hzl : z (p.obj.length + p.rws.length + 1) = t.dn := by
    rw [hz]; unfold dirZ
    rw [if_pos rfl, sm_zero (fun i hi => if_neg (by have := hm.di.br i hi; omega))]; omega
  refine ⟨fun j => -(z j), ⟨hm.di.dp, fun j hj => by have := hzn j (by omega); show 0 ≤ -(z j); omega, fun i hi => ?_⟩, ?_⟩
  · have h1 := hom_row hh hi (dirE_0 i hi)
    rw [hza, hzl] at h1
    have h2 := hzn (p.obj.length + i) (by omega)
    rw [sm_congr (g := fun j => -(nth (nth p.rws i) j * z j)) (fun j _ => by rw [Int.mul_neg]), sm_neg]
    omega
  · have h1 := hom_goal hh
    rw [dirE_1 (Nat.le_refl _)] at h1
    unfold lval
    rw [sm_congr (g := fun j => -(nth p.obj j * z j)) (fun j _ => by rw [Int.mul_neg]), sm_neg, e4]
    omega
/-! ### The start -/
theorem new_bs {k : Nat} (hk : k < p.rws.length) : nth (newTab p).bs k = (p.obj.length : Int) + k := by
  unfold newTab ntBs; rw [nth_rangeMap hk]; omega
/-- No artificial variable in the basis. -/
def NoA (p : LPr) (t : Tb) : Prop := ∀ k : Nat, k < p.rws.length → nth t.bs k ≠ (p.obj.length : Int) + p.rws.length
theorem art_zero (hs : Same p t) (hm : MS p t) {r : Nat} (hr : r < p.rws.length) (hb : nth t.bs r = (p.obj.length : Int) + p.rws.length) (h0 : 0 ≤ cel t ((p.rws.length + 1 : Nat) : Int) ((ntW p : Int) - 1)) : cel t r ((ntW p : Int) - 1) = 0 := by
  have e4 : ((ntW p : Int) - 1) = ((p.obj.length + p.rws.length + 1 : Nat) : Int) := by unfold ntW; omega
  have hh := (hs _ _ dirE_0).2 (dir_hom hm.di (c := p.obj.length + p.rws.length + 1) (by unfold ntW; omega))
  have h1 := hom_art hh
  rw [dirE_1 (by omega)] at h1
  have h2 : dirZ p t (p.obj.length + p.rws.length + 1) (p.obj.length + p.rws.length) = -(cel t r ((p.obj.length + p.rws.length + 1 : Nat) : Int)) := by
    unfold dirZ
    rw [if_neg (by omega), sm_one hr (fun i hi hir => if_neg (fun e => hir (hm.di.inj hi hr (e.trans (by rw [hb]; omega))))), if_pos (by rw [hb]; omega)]; omega
  rw [h2] at h1
  have := hm.pf r hr
  rw [e4] at this h0 ⊢
  omega
theorem art_row (hs : Same p t) (hm : MS p t) {r : Nat} (hr : r < p.rws.length) (hb : nth t.bs r = (p.obj.length : Int) + p.rws.length) (h0 : cel t r ((ntW p : Int) - 1) = 0) : ∃ c, c < p.obj.length + p.rws.length ∧ Nzc t r (ntW p) c := by
  have e4 : ((ntW p : Int) - 1) = ((p.obj.length + p.rws.length + 1 : Nat) : Int) := by unfold ntW; omega
  have hu := hm.di.unit (i := r) (by omega) hr
  rw [hb, if_pos rfl] at hu
  have hdp := hm.di.dp
  have hsome : ∃ j, j < p.obj.length + p.rws.length ∧ cel t r j ≠ 0 := by
    refine Classical.byContradiction fun hn => ?_
    have hz0 : ∀ j : Nat, j < p.obj.length + p.rws.length → cel t r j = 0 := fun j hj => Classical.byContradiction fun h => hn ⟨j, hj, h⟩
    -- a solution with the artificial variable 1
    obtain ⟨z, hz⟩ : ∃ z : Nat → Int, z = fun j => if j < p.obj.length then 0 else if j < p.obj.length + p.rws.length then 1 + nth p.bnd ((j - p.obj.length : Nat) : Int) else if j = p.obj.length + p.rws.length then 1 else -1 := ⟨_, rfl⟩
    obtain ⟨E, hE⟩ : ∃ E : Nat → Int, E = fun i => if i = p.rws.length + 1 then -1 else 0 := ⟨_, rfl⟩
    have hE0 : ∀ i, i < p.rws.length → E i = 0 := fun i hi => by rw [hE]; exact if_neg (by omega)
    have hza : z (p.obj.length + p.rws.length) = 1 := by rw [hz]; dsimp only; rw [if_neg (by omega), if_neg (by omega), if_pos rfl]
    have hzl : z (p.obj.length + p.rws.length + 1) = -1 := by rw [hz]; dsimp only; rw [if_neg (by omega), if_neg (by omega), if_neg (by omega)]
    have hzx : ∀ j, j < p.obj.length → z j = 0 := fun j hj => by rw [hz]; exact if_pos hj
    have hh : Hom p (newTab p) z E := by
      refine hom_of hE0 (fun i hi => ?_) ?_ ?_
      · rw [sm_zero (fun j hj => by rw [hzx j hj, Int.mul_zero]), hza, hzl]
        have : z (p.obj.length + i) = 1 + nth p.bnd i := by rw [hz]; dsimp only; rw [if_neg (by omega), if_pos (by omega), show p.obj.length + i - p.obj.length = i from by omega]
        rw [this]; omega
      · rw [sm_zero (fun j hj => by rw [hzx j hj, Int.mul_zero]), hE]; exact if_neg (by omega)
      · rw [hza, hE]; exact if_pos rfl
    have h1 := (hs z E hE0).1 hh r (by omega)
    rw [hE0 r hr, Int.mul_zero, Int.zero_add, ntW_eq] at h1
    simp only [sm] at h1
    rw [sm_zero (fun j hj => by rw [hz0 j hj, Int.zero_mul]), hza, hzl] at h1
    rw [e4] at h0
    have e5 : (p.obj.length : Int) + (p.rws.length : Int) = ((p.obj.length + p.rws.length : Nat) : Int) := by omega
    rw [e5] at hu
    rw [hu, h0] at h1
    omega
  cases hf : nzF t r (ntW p) with
  | none =>
    obtain ⟨j, hj, hne⟩ := hsome
    unfold nzF at hf
    rw [List.find?_range_eq_none] at hf
    have := hf j (by unfold ntW; omega)
    simp at this; exact absurd this hne
  | some c =>
    have hn := nzF_some hf
    obtain ⟨j, hj, hne⟩ := hsome
    refine ⟨c, ?_, hn⟩
    refine Nat.lt_of_not_le fun hle => hne (hn.all j (by omega))
/-- The artificial variable leaves the basis. -/
theorem drive_ends (hp : LpC p) : ∀ (d : Nat) {r : Nat} {t : Tb}, r + d = p.rws.length → Same p t → MS p t → (∀ k : Nat, k < r → nth t.bs k ≠ (p.obj.length : Int) + p.rws.length) → (0 ≤ cel t ((p.rws.length + 1 : Nat) : Int) ((ntW p : Int) - 1) ∨ NoA p t) → ∃ t', DrvN (ntW p) r t t' ∧ Same p t' ∧ MS p t' ∧ NoA p t'
  | 0, r, t, hr, hs, hm, hk, _ => ⟨t, .done (by rw [hm.di.bl]; omega), hs, hm, fun k hk' => hk k (by omega)⟩
  | d + 1, r, t, hr, hs, hm, hk, h0 => by
    have hrl : r < t.bs.length := by rw [hm.di.bl]; omega
    have hrm : r < p.rws.length := by omega
    have hw2 : (ntW p : Int) - 2 = (p.obj.length : Int) + p.rws.length := by unfold ntW; omega
    by_cases hb : nth t.bs r = (p.obj.length : Int) + p.rws.length
    · have h00 := art_zero hs hm hrm hb (h0.resolve_right fun h => h r hrm hb)
      obtain ⟨c, hc, hn⟩ := art_row hs hm hrm hb h00
      obtain ⟨hdi, s, hpe⟩ := hm.di.piv hrm (c := c) (by omega) hn.hit
      have e4 : ((ntW p : Int) - 1) = ((p.obj.length + p.rws.length + 1 : Nat) : Int) := by unfold ntW; omega
      have hm' : MS p (pivF t r c) := ⟨hdi, fun i hi => by
        rw [e4] at h00 ⊢
        by_cases hir : i = r
        · subst hir; rw [hpe.row _ (by unfold ntW; omega), h00, Int.mul_zero]; exact Int.le_refl _
        · have ho := hpe.oth i (by omega) hir (p.obj.length + p.rws.length + 1) (by unfold ntW; omega)
          rw [h00, Int.mul_zero, Int.sub_zero] at ho
          have hpi := hm.pf i hi
          rw [e4] at hpi
          have hsp : 0 < s * cel t r c := by rw [← hpe.dn]; exact hdi.dp
          have h3 : 0 ≤ cel (pivF t r c) i ((p.obj.length + p.rws.length + 1 : Nat) : Int) * t.dn := by
            rw [ho, Int.mul_left_comm]; exact Int.mul_nonneg hpi (by omega)
          refine Int.not_lt.1 fun hlt => ?_
          have := Int.mul_neg_of_neg_of_pos hlt hm.di.dp
          omega⟩
      have hno : NoA p (pivF t r c) := fun k hk' he => by
        rw [hpe.bs, nth_set (by omega) (by rw [hm.di.bl]; omega)] at he
        split at he
        · omega
        · rename_i hkr
          exact hkr (by have := hm.di.inj hk' hrm (he.trans hb.symm); omega)
      obtain ⟨t', g1, g2, g3, g4⟩ := drive_ends hp d (r := r + 1) (t := pivF t r c) (by omega) (hs.piv hm.di hrm hn.hit hpe) hm' (fun k hk' => hno k (by omega)) (.inr hno)
      exact ⟨t', .piv hrl (by rw [hb, hw2]) (hm.di.small hp) hn g1, g2, g3, g4⟩
    · obtain ⟨t', g1, g2, g3, g4⟩ := drive_ends hp d (r := r + 1) (t := t) (by omega) hs hm (fun k hk' => by
        by_cases hkr : k = r
        · subst hkr; exact hb
        · exact hk k (by omega)) h0
      exact ⟨t', .skip hrl (by rw [hw2]; exact hb) g1, g2, g3, g4⟩
theorem start_ends (hp : LpC p) : (∃ t1, StartN (ntW p) (newTab p) t1 true ∧ Same p t1 ∧ MS p t1 ∧ NoA p t1) ∨ (∃ t1, StartN (ntW p) (newTab p) t1 false ∧ MS p t1 ∧ ∀ x d, ¬ Pt p x d) := by
  have e4 : ((ntW p : Int) - 1) = ((p.obj.length + p.rws.length + 1 : Nat) : Int) := by unfold ntW; omega
  have e5 : (ntW p : Int) - 2 = ((p.obj.length + p.rws.length : Nat) : Int) := by unfold ntW; omega
  obtain ⟨s1, s2⟩ := lo_spec (t := newTab p) (w := ntW p) (k := (newTab p).bs.length)
  have hlin := loF_in (t := newTab p) (w := ntW p)
  rw [newTab_bl] at hlin
  by_cases hl : loF (newTab p) (ntW p) < 0
  · refine .inl ⟨newTab p, .pos hl, Same.new, ⟨DI.new, fun i hi => s1 hl i (by rw [newTab_bl]; exact hi)⟩, fun k hk => by rw [new_bs hk]; omega⟩
  · obtain ⟨l, hle⟩ := Int.eq_ofNat_of_zero_le (Int.not_lt.1 hl)
    have hlm : l < p.rws.length := by omega
    obtain ⟨q1, q2⟩ := s2 (Int.not_lt.1 hl)
    have hle' : loTo (newTab p) (ntW p) (newTab p).bs.length = (l : Int) := hle
    rw [hle'] at q1 q2
    have hpc : cel (newTab p) l ((p.obj.length + p.rws.length : Nat) : Int) = -1 := by
      rw [cel_new hlm (by unfold ntW; omega), if_neg (by omega), if_neg (by omega), if_pos rfl]
    have hpr : ∀ i : Nat, i < p.rws.length → cel (newTab p) i ((p.obj.length + p.rws.length : Nat) : Int) = -1 := fun i hi => by
      rw [cel_new hi (by unfold ntW; omega), if_neg (by omega), if_neg (by omega), if_pos rfl]
    obtain ⟨hdi, s, hpe⟩ := (DI.new (p := p)).piv hlm (c := p.obj.length + p.rws.length) (by omega) (by rw [hpc]; decide)
    have hs : s = -1 := by
      rcases hpe.s1 with h1 | h1
      · have := hdi.dp; rw [hpe.dn, h1, hpc] at this; omega
      · exact h1
    subst hs
    have hd1 : (newTab p).dn = 1 := rfl
    have hm1 : MS p (pivF (newTab p) l ((p.obj.length + p.rws.length : Nat) : Int)) := ⟨hdi, fun i hi => by
      rw [e4] at q1 q2 ⊢
      by_cases hir : i = l
      · subst hir; rw [hpe.row _ (by unfold ntW; omega)]; omega
      · have ho := hpe.oth i (by omega) hir (p.obj.length + p.rws.length + 1) (by unfold ntW; omega)
        rw [hd1, Int.mul_one, hpc, hpr i hi] at ho
        have := q2 i (by rw [newTab_bl]; exact hi)
        omega⟩
    have hsame1 := Same.new.piv DI.new hlm (by rw [hpc]; decide) hpe
    obtain ⟨k, t2, x, g1, g2, g3, g4⟩ := max_ends hp (ob := p.rws.length + 1) (n := ntW p - 1) (by omega) (by omega) (by unfold ntW; omega) (Same p) (fun t t' c r hm hi hst => hi.stp hm hst) hm1 hsame1
    obtain ⟨hx, hall⟩ := not_unb hp g3 g2 (.inr rfl) (by unfold ntW; omega) g4
    have hrun : MaxN (ntW p) ((newTab p).bs.length + 1) (ntW p - 1) k (pivF (newTab p) (loF (newTab p) (ntW p)) ((ntW p : Int) - 2)) t2 x := by
      rw [hle, e5, newTab_bl]
      exact g1
    have hbnd := (DI.new (p := p)).small hp
    by_cases hneg : cel t2 ((p.rws.length + 1 : Nat) : Int) ((ntW p : Int) - 1) < 0
    · refine .inr ⟨t2, .no hbnd hl hrun (by rw [newTab_bl]; exact hneg), g2, fun y d hy => ?_⟩
      have h1 := Pt.eqn (x := y) (d := d) g3 (i := p.rws.length + 1) (by omega) (by omega)
      rw [if_neg (by omega), Int.mul_zero, Int.zero_add] at h1
      have h2 := sm_nonneg (n := p.obj.length + p.rws.length) (f := fun j => cel t2 ((p.rws.length + 1 : Nat) : Int) j * ptZ p y d j) fun j hj => Int.mul_nonneg (hall j (by unfold ntW; omega)) (hy.zn (by omega))
      have h3 := Int.mul_neg_of_neg_of_pos hneg hy.dp
      omega
    · obtain ⟨t3, d1, d2, d3, d4⟩ := drive_ends hp p.rws.length (r := 0) (t := t2) (by omega) g3 g2 (fun k hk => by omega) (.inl (by omega))
      exact .inl ⟨t3, .yes hbnd hl hrun (by rw [newTab_bl]; exact hneg) d1, d2, d3, d4⟩
/-- The program has no point, or its greatest value is found. -/
theorem lp_solved (hp : LpC p) : (SolR p none ∧ ∀ x d, ¬ Pt p x d) ∨ ∃ T D, SolR p (some (lowF T D)) ∧ inB T ∧ inB D ∧ 0 < D ∧ (∃ x, Pt p x D ∧ lval p x = T) ∧ ∀ y d, Pt p y d → lval p y * D ≤ T * d := by
  have e4 : ((ntW p : Int) - 1) = (p.obj.length : Int) + p.rws.length + 1 := by unfold ntW; omega
  rcases start_ends hp with ⟨t1, h1, h2, h3, h4⟩ | ⟨t1, h1, h2, h3⟩
  · obtain ⟨k, t2, x, g1, g2, g3, g4⟩ := max_ends hp (ob := p.rws.length) (n := p.obj.length + p.rws.length) (Nat.le_refl _) (by omega) (by omega) (fun t => Same p t ∧ NoA p t) (fun t t' c r hm hi hst => ⟨hi.1.stp hm hst, fun k hk he => by
      rw [hst.pe.bs, nth_set (by omega) (by rw [hm.di.bl]; omega)] at he
      split at he
      · have := hst.hc; omega
      · exact hi.2 k hk he⟩) h3 ⟨h2, h4⟩
    obtain ⟨hx, hall⟩ := not_unb hp g3.1 g2 (.inl rfl) (by omega) g4
    subst hx
    have hsm := g2.di.small hp
    refine .inr ⟨cel t2 p.rws.length ((ntW p : Int) - 1), t2.dn, ?_, hsm.cel, hsm.dn, g2.di.dp, base_pt hp g3.1 g2 g3.2, fun y d hy => ?_⟩
    · rw [e4]
      exact .opt h1 g1 g2.di.dp (fun i hi => (g2.di.br i hi).1)
    · have h5 := Pt.eqn (x := y) (d := d) g3.1 (i := p.rws.length) (Nat.le_refl _) (by omega)
      rw [if_pos rfl] at h5
      have h6 := sm_nonneg (n := p.obj.length + p.rws.length) (f := fun j => cel t2 p.rws.length j * ptZ p y d j) fun j hj => Int.mul_nonneg (hall j hj) (hy.zn (by omega))
      rw [Int.mul_comm (lval p y)]
      omega
  · exact .inl ⟨.inf h1 (h2.di.small hp) h2.di.dp, h3⟩
end
end Go.Eng
end

section
/- The bound of counting: least over the points; at least the goals that are not true at first. -/

set_option linter.unusedSimpArgs false
set_option linter.unnecessarySimpa false
set_option linter.unusedVariables false
namespace Go.Eng
section
variable {t : Tsk}
theorem cpA_e (h : cpF t = (0, 0)) : (∀ r, r ∈ (cpA t).rws → r.length = t.ops.length ∧ ∀ x, x ∈ r → -1 ≤ x ∧ x ≤ 1) ∧ ∀ x, x ∈ (cpA t).bnd → -1 ≤ x ∧ x ≤ 0 := by
  refine ⟨fun r hr => ?_, fun x hx => ?_⟩
  · rw [cpA_r] at hr
    have hr := List.mem_of_mem_take hr
    unfold allR at hr
    rcases List.mem_append.1 hr with hr | hr
    · obtain ⟨q, _, rfl⟩ := List.mem_map.1 hr
      refine ⟨by simp [gRow], fun x hx => ?_⟩
      unfold gRow at hx
      obtain ⟨o, _, rfl⟩ := List.mem_map.1 hx
      have := chg_in (o := o) (p := q)
      omega
    · obtain ⟨q, _, rfl⟩ := List.mem_map.1 hr
      refine ⟨by simp [lRow], fun x hx => ?_⟩
      unfold lRow at hx
      obtain ⟨i, _, rfl⟩ := List.mem_map.1 hx
      split <;> omega
  · rw [cpA_b] at hx
    have hx := List.mem_of_mem_take hx
    unfold allB at hx
    rcases List.mem_append.1 hx with hx | hx
    · obtain ⟨q, _, rfl⟩ := List.mem_map.1 hx
      unfold gBnd; split <;> omega
    · obtain ⟨q, _, rfl⟩ := List.mem_map.1 hx
      omega
theorem cpA_ol : (cpA t).obj.length = t.ops.length := by simp [cpA]
theorem cpA_oj {j : Nat} (hj : j < t.ops.length) : nth (cpA t).obj j = -(nth t.ops j).cost := by
  rw [nth_eq (by rw [cpA_ol]; exact hj), nth_eq hj]; simp [cpA]
theorem cpA_lc (h : cpF t = (0, 0)) : LpC (cpA t) := by
  obtain ⟨h1, h2⟩ := cpF_inv h
  have hV := tskF_v h1
  have hk := cpA_ok h
  obtain ⟨hrow, hbn⟩ := cpA_e h
  refine ⟨hk, fun i hi j hj => ?_, fun i hi => ?_, fun j hj => ?_⟩
  · obtain ⟨e1, e2⟩ := hrow _ (nth_mem (l := (cpA t).rws) (n := (i : Int)) (by omega) (by omega))
    rw [cpA_ol] at hj
    exact e2 _ (nth_mem (l := nth (cpA t).rws i) (n := (j : Int)) (by omega) (by omega))
  · have := hk.b
    exact hbn _ (nth_mem (l := (cpA t).bnd) (n := (i : Int)) (by omega) (by omega))
  · rw [cpA_ol] at hj
    rw [cpA_oj hj]
    have hc := (hV.op j hj).2
    have hc2 := cl_cost h2 hj
    omega
theorem lval_cost {x : Nat → Int} : lval (cpA t) x = -(sm t.ops.length fun j => (nth t.ops j).cost * x j) := by
  unfold lval
  rw [cpA_ol, ← sm_neg]
  exact sm_congr fun j hj => by rw [cpA_oj hj, Int.neg_mul]
theorem low_mul {T D : Int} (hD : 0 < D) : ∃ g : Int, 0 < g ∧ T = g * (lowF T D).1 ∧ D = g * (lowF T D).2 := by
  have hg : 0 < Int.gcd T D := Int.gcd_pos_of_ne_zero_right _ (by omega)
  refine ⟨(Int.gcd T D : Int), by omega, ?_, ?_⟩
  · exact (Int.mul_tdiv_cancel' (Int.gcd_dvd_left ..)).symm
  · exact (Int.mul_tdiv_cancel' (Int.gcd_dvd_right ..)).symm
/-- The number is the least cost of a point, as a fraction. -/
def CpB (t : Tsk) (N D : Int) : Prop := (-1000000000 ≤ N ∧ N ≤ 1000000000 ∧ 0 < D ∧ D ≤ 1000000000) ∧
  (((∀ x d, ¬ Pt (cpA t) x d) ∧ N = 1000000000 ∧ D = 1) ∨
   ((∃ x e, 0 < e ∧ Pt (cpA t) x (e * D) ∧ (sm t.ops.length fun j => (nth t.ops j).cost * x j) = e * N) ∧
    ∀ y d, Pt (cpA t) y d → N * d ≤ (sm t.ops.length fun j => (nth t.ops j).cost * y j) * D))
theorem cp_good (t : Tsk) : ∃ o, (cpF t = (0, 0) → SolR (cpA t) o) ∧ (cpF t = (0, 0) → CpB t (bdR t o).1 (bdR t o).2) := by
  by_cases h : cpF t = (0, 0)
  · rcases lp_solved (cpA_lc h) with ⟨h1, h2⟩ | ⟨T, D, h1, h2, h3, h4, ⟨x, h5, h6⟩, h7⟩
    · refine ⟨none, fun _ => h1, fun _ => ?_⟩
      rw [← bd_2 h (by simp [solT])]
      exact ⟨by simp, .inl ⟨h2, rfl, rfl⟩⟩
    · refine ⟨_, fun _ => h1, fun _ => ?_⟩
      rw [← bd_0 h (by simp [solT])]
      obtain ⟨g, g1, g2, g3⟩ := low_mul (T := T) h4
      unfold inB at h2 h3
      have hl := low_ok h2.1 h2.2 h4 h3.2
      rw [lval_cost] at h6
      refine ⟨⟨?_, ?_, ?_, ?_⟩, .inr ⟨⟨x, g, g1, ?_, ?_⟩, fun y d hy => ?_⟩⟩
      · show -1000000000 ≤ -(lowF T D).1; omega
      · show -(lowF T D).1 ≤ 1000000000; omega
      · exact hl.2.2.1
      · exact hl.2.2.2.1
      · show Pt (cpA t) x (g * (lowF T D).2); rw [← g3]; exact h5
      · show _ = g * -(lowF T D).1; rw [Int.mul_neg, ← g2]; omega
      · show -(lowF T D).1 * d ≤ _ * (lowF T D).2
        have h8 := h7 y d hy
        rw [lval_cost] at h8
        generalize (sm t.ops.length fun j => (nth t.ops j).cost * y j) = C at h8 ⊢
        generalize (lowF T D).1 = a at g2 ⊢
        generalize (lowF T D).2 = b at g3 ⊢
        rw [g2, g3] at h8
        have e1 : -C * (g * b) = g * (-(C * b)) := by rw [Int.neg_mul, Int.mul_neg, Int.mul_left_comm]
        have e2 : g * a * d = g * (a * d) := Int.mul_assoc ..
        rw [e1, e2] at h8
        have := Int.le_of_mul_le_mul_left h8 g1
        rw [Int.neg_mul]
        omega
  · exact ⟨none, fun h' => absurd h' h, fun h' => absurd h' h⟩
/-! ### goals -/
def lsAdd (t : Tsk) (q : Int) : Nat → Int
  | 0 => 1000000000
  | k + 1 => if q ∈ (nth t.ops k).add then min (lsAdd t q k) (nth t.ops k).cost else lsAdd t q k
theorem sm_le {f g : Nat → Int} : ∀ {n : Nat}, (∀ i, i < n → f i ≤ g i) → sm n f ≤ sm n g
  | 0, _ => Int.le_refl _
  | n + 1, h => by
    have h1 := sm_le (n := n) fun i hi => h i (by omega)
    have h2 := h n (by omega)
    simp only [sm]
    omega
end
end Go.Eng
end

section
/- Plans of a task: states, runs; a vector; sums in range. -/

set_option linter.unusedSimpArgs false
set_option linter.unnecessarySimpa false
set_option linter.unusedVariables false
namespace Go.Eng
abbrev vecC (v : List Int × Int) : List D := [ints v.1, .v (.int .i64 v.2)]
abbrev vecS (v : List Int × Int) : S := .g [.d (ints v.1), I v.2]
abbrev vecsD (l : List (List Int × Int)) : D := .s 2 (l.map vecC)
theorem sm_s {n : Nat} {f : Nat → Int} : sm (n + 1) f = sm n f + f n := rfl
theorem sm_bnd {B : Int} {f : Nat → Int} : ∀ {n : Nat}, (∀ i, i < n → -B ≤ f i ∧ f i ≤ B) → -(B * n) ≤ sm n f ∧ sm n f ≤ B * n
  | 0, _ => by simp [sm]
  | n + 1, h => by
    have h1 := sm_bnd (n := n) fun i hi => h i (by omega)
    have h2 := h n (by omega)
    rw [sm_s]
    have e : B * ((n + 1 : Nat) : Int) = B * n + B := by rw [Int.natCast_add, Int.mul_add]; simp
    rw [e]; omega
/-! ### states -/
def keepTo (s d : List Int) (k : Nat) : List Int := (s.take k).filter fun x => decide (x ∉ d)
theorem keep_0 {s d : List Int} : keepTo s d 0 = [] := by simp [keepTo]
theorem keep_t {s d : List Int} {k : Nat} (hk : k < s.length) (h : nth s k ∉ d) : keepTo s d (k + 1) = keepTo s d k ++ [nth s k] := by unfold keepTo; rw [tk_s hk, List.filter_append]; simp [h]
theorem keep_f {s d : List Int} {k : Nat} (hk : k < s.length) (h : nth s k ∈ d) : keepTo s d (k + 1) = keepTo s d k := by unfold keepTo; rw [tk_s hk, List.filter_append]; simp [h]
theorem keep_len {s d : List Int} {k : Nat} : (keepTo s d k).length ≤ s.length := by
  have h1 := List.length_filter_le (fun x => decide (x ∉ d)) (s.take k)
  rw [List.length_take] at h1
  unfold keepTo; omega
def upS (s a d : List Int) : List Int := dd (sortI (keepTo s d s.length ++ a))
theorem up_mem {s a d : List Int} {x : Int} : x ∈ upS s a d ↔ (x ∈ s ∧ x ∉ d) ∨ x ∈ a := by
  unfold upS
  rw [dd_mem, sortI_mem, List.mem_append]
  unfold keepTo
  rw [List.take_length]
  simp
theorem up_lt {s a d : List Int} : (upS s a d).Pairwise (· < ·) := dd_strictI sortI_sorted
def stS (t : Tsk) (s : List Int) (l : List Int) : Nat → List Int
  | 0 => s
  | k + 1 => upS (stS t s l k) (nth t.ops (nth l k)).add (nth t.ops (nth l k)).del
def canS (t : Tsk) (s : List Int) (i : Int) : Prop := SubP (nth t.ops i).pre s
instance {t : Tsk} {s : List Int} {i : Int} : Decidable (canS t s i) := by unfold canS; infer_instance
def runK (t : Tsk) (s l : List Int) : Nat → Nat
  | 0 => 0
  | k + 1 => if runK t s l k = k ∧ canS t (stS t s l k) (nth l k) then k + 1 else runK t s l k
theorem runK_le {t : Tsk} {s l : List Int} : ∀ {k : Nat}, runK t s l k ≤ k
  | 0 => Nat.le_refl _
  | k + 1 => by simp only [runK]; have := runK_le (t := t) (s := s) (l := l) (k := k); split <;> omega
theorem runK_t {t : Tsk} {s l : List Int} {k : Nat} (h : runK t s l k = k) (hc : canS t (stS t s l k) (nth l k)) : runK t s l (k + 1) = k + 1 := by simp only [runK]; rw [if_pos ⟨h, hc⟩]
theorem runK_f {t : Tsk} {s l : List Int} {k : Nat} (h : runK t s l k = k) (hc : ¬ canS t (stS t s l k) (nth l k)) : ∀ d : Nat, runK t s l (k + 1 + d) = k
  | 0 => by
    show runK t s l (k + 1) = k
    simp only [runK]; rw [if_neg (fun hh => hc hh.2), h]
  | d + 1 => by
    have ih := runK_f h hc d
    show runK t s l (k + 1 + d + 1) = k
    simp only [runK]
    rw [if_neg (fun hh => by omega), ih]
theorem runK_ok {t : Tsk} {s l : List Int} : ∀ {k : Nat}, runK t s l k = k → ∀ i : Nat, i < k → canS t (stS t s l i) (nth l i)
  | 0, _, i, hi => by omega
  | k + 1, h, i, hi => by
    simp only [runK] at h
    split at h
    · rename_i hh
      by_cases hik : i = k
      · subst hik; exact hh.2
      · exact runK_ok hh.1 i (by omega)
    · have := runK_le (t := t) (s := s) (l := l) (k := k); omega
def runL (t : Tsk) (s l : List Int) (k : Nat) : List (List Int) := (List.range (k + 1)).map (stS t s l)
theorem runL_s {t : Tsk} {s l : List Int} {k : Nat} : runL t s l (k + 1) = runL t s l k ++ [stS t s l (k + 1)] := by unfold runL; rw [List.range_succ, List.map_append]; rfl
theorem runL_len {t : Tsk} {s l : List Int} {k : Nat} : (runL t s l k).length = k + 1 := by simp [runL]
theorem runL_at {t : Tsk} {s l : List Int} {k j : Nat} (hj : j ≤ k) : nth (runL t s l k) j = stS t s l j := by
  rw [nth_eq (by rw [runL_len]; omega)]; simp [runL]
def wrkB (t : Tsk) (s l : List Int) : Bool := decide (runK t s l l.length = l.length ∧ SubP t.goal (stS t s l l.length))
/-! ### a sorted list within another -/
structure MgP (s part : List Int) (k j : Nat) : Prop where
  kk : k ≤ part.length
  jj : j ≤ s.length
  dd : ∀ i : Nat, i < k → nth part i ∈ s
  bb : ∀ i m : Nat, i < j → k ≤ m → m < part.length → nth s i < nth part m ∨ (∃ u : Nat, u < k ∧ nth s i = nth part u)
structure MgQ (s part : List Int) (k j : Nat) : Prop where
  kk : k ≤ part.length
  jj : j ≤ s.length
  dd : ∀ i : Nat, i < k → nth part i ∈ s
  bb : ∀ i : Nat, i < j → k < part.length → nth s i < nth part k
theorem pw_nth {l : List Int} (h : l.Pairwise (· < ·)) {i j : Nat} (hij : i < j) (hj : j < l.length) : nth l i < nth l j := by
  rw [nth_eq hj, nth_eq (by omega)]
  exact List.pairwise_iff_getElem.1 h i j (by omega) hj hij
theorem mg_0 {s part : List Int} : MgP s part 0 0 := ⟨by omega, by omega, fun i hi => by omega, fun i m hi => by omega⟩
theorem mg_q {s part : List Int} {k j : Nat} (hp : part.Pairwise (· < ·)) (h : MgP s part k j) : MgQ s part k j := ⟨h.kk, h.jj, h.dd, fun i hi hk => by
  rcases h.bb i k hi (Nat.le_refl _) hk with h1 | ⟨u, h1, h2⟩
  · exact h1
  · rw [h2]; exact pw_nth hp h1 hk⟩
theorem mg_j {s part : List Int} {k j : Nat} (h : MgQ s part k j) (hj : j < s.length) (hlt : nth s j < nth part k) : MgQ s part k (j + 1) := ⟨h.kk, by omega, h.dd, fun i hi hk => by
  by_cases hij : i = j
  · subst hij; exact hlt
  · exact h.bb i (by omega) hk⟩
theorem mg_s {s part : List Int} {k j : Nat} (hs : s.Pairwise (· < ·)) (hp : part.Pairwise (· < ·)) (h : MgQ s part k j) (hk : k < part.length) (hj : j < s.length ∧ nth s j = nth part k) : MgP s part (k + 1) j := ⟨by omega, h.jj, fun i hi => by
  by_cases hik : i = k
  · subst hik; rw [← hj.2]; exact nth_mem (by omega) (by omega)
  · exact h.dd i (by omega), fun i m hi hm hml => by
  have h1 := h.bb i hi hk
  have h2 := pw_nth hp (i := k) (j := m) (by omega) hml
  exact .inl (by omega)⟩
theorem mg_no {s part : List Int} {k j : Nat} (hs : s.Pairwise (· < ·)) (h : MgQ s part k j) (hk : k < part.length) (hge : j < s.length → nth part k ≤ nth s j) (hne : ∀ hj : j < s.length, nth s j ≠ nth part k) : ¬ SubP part s := fun hh => by
  have h1 := hh k hk
  obtain ⟨i, hi, he⟩ := List.getElem_of_mem h1
  rw [← nth_eq hi] at he
  by_cases hij : i < j
  · have := h.bb i hij hk; omega
  · have h2 := hge (by omega)
    have h3 := hne (by omega)
    by_cases hij2 : i = j
    · subst hij2; exact h3 he
    · have := pw_nth hs (i := j) (j := i) (by omega) hi; omega
theorem mg_yes {s part : List Int} {k j : Nat} (hk : k = part.length) (h : MgP s part k j) : SubP part s := fun i hi => h.dd i (by omega)
theorem row_ml {p : LPr} {l : List Int} {k : Nat} (hp : LpC p) (hk : k < p.rws.length) (hl : l.length = p.obj.length) (hx : ∀ i : Nat, i < l.length → 0 ≤ nth l i ∧ nth l i ≤ 1000000) : ∀ j : Nat, j < (nth p.rws k).length → inB (nth (nth p.rws k) j * nth l j) := fun j hj => by
  have hw := hp.ok.w k hk
  have h1 := hp.c k hk j (by omega)
  have h2 := hx j (by omega)
  have h3 : nth (nth p.rws k) j = -1 ∨ nth (nth p.rws k) j = 0 ∨ nth (nth p.rws k) j = 1 := by omega
  unfold inB
  rcases h3 with h3 | h3 | h3 <;> rw [h3] <;> omega
theorem row_sm {p : LPr} {l : List Int} {k : Nat} (hp : LpC p) (hk : k < p.rws.length) (hl : l.length = p.obj.length) (hx : ∀ i : Nat, i < l.length → 0 ≤ nth l i ∧ nth l i ≤ 1000000) : ∀ j : Nat, j ≤ (nth p.rws k).length → inB (sm j fun i => nth (nth p.rws k) i * nth l i) := fun j hj => by
  have hw := hp.ok.w k hk
  have h6 := hp.ok.o6
  have h := sm_bnd (B := 1000000) (n := j) (f := fun i => nth (nth p.rws k) i * nth l i) fun i hi => by
    have h1 := hp.c k hk i (by omega)
    have h2 := hx i (by omega)
    have h3 : nth (nth p.rws k) i = -1 ∨ nth (nth p.rws k) i = 0 ∨ nth (nth p.rws k) i = 1 := by omega
    show -1000000 ≤ nth (nth p.rws k) i * nth l i ∧ nth (nth p.rws k) i * nth l i ≤ 1000000
    rcases h3 with h3 | h3 | h3 <;> rw [h3] <;> omega
  unfold inB
  omega
end Go.Eng
end

section
/- The engine: a literal slice of the call's own. -/

set_option linter.unusedSimpArgs false
set_option linter.unnecessarySimpa false
set_option linter.unusedVariables false
namespace Go.Eng
open Go.RowKit (Below)
section
variable {P : Program} {B : Nat} {o : Oper} {e : Env} {M : Mem}
theorem OpSem.buildS (h : Nat) {t k len : Nat} {ps : Array (Nat × Operand)} {l : List (Nat × S)} {zs : List Value} {ss : List S} {rows : List (List D)} (ho : o.op = .buildSlice t len ps) (hp : partsS e ps.toList = some l) (hk : esz P t = some k)
    (hz : zcells P (P.elem t) = some zs) (h1 : zs.all Value.oneCell' = true) (hzk : zs.length = k) (hk0 : 0 < k) (hlen : len * k ≤ 2 ^ 24)
    (hf : fillS (fun i => some (i * k, k)) ((List.replicate len zs).flatten.map fun z => .d (.v z)) l = some ss) (hr : rowsOf k len ss = some rows) : OpSem P B o e M (.o h) (some (h, .own k (P.elem t) rows)) := by
  intro O H a w hB hs hm K hK
  obtain ⟨q1, q2⟩ := partsS_rep (O := O) (H := H) (w := w) (a := a) ps.toList l hp (fun p hp s hs' => hs p.2 (by simp only [ho, Op.operands]; simpa using ⟨p.1, by simpa using hp⟩) s hs')
  have hzz : ∀ (n : Nat), (List.replicate n zs).flatten.all Value.oneCell' = true := by
    intro n
    rw [List.all_eq_true] at h1 ⊢
    intro x hx
    rw [List.mem_flatten] at hx
    obtain ⟨r, hr, hx⟩ := hx
    rw [List.mem_replicate] at hr
    exact h1 x (hr.2 ▸ hx)
  have hz' := RepC.zero (O := O) (H := H) (w := w) ((List.replicate len zs).flatten) (hzz len)
  obtain ⟨cs', hcs, hrep⟩ := fill_rep (places := fun i => some (i * k, k)) _ l _ _ ss q1 q2 hz' hf
  obtain ⟨z, hz1, hz2⟩ := run_zero hz w
  have harr : (Array.range (len * k)).map (fun i => zs.toArray[i % zs.toArray.size]!) = ((List.replicate len zs).flatten).toArray := by
    apply Array.ext'
    simp only [Array.toList_map, Array.toList_range]
    clear hf hz' hcs hrep hlen ho hr
    induction len with
    | zero => simp
    | succ n ih =>
      rw [List.replicate_succ, List.flatten_cons]
      rw [Nat.succ_mul, Nat.add_comm, List.range_add, List.map_append, List.map_map]
      congr 1
      · apply List.ext_getElem?
        intro i
        by_cases hi : i < k
        · simp [hi, Nat.mod_eq_of_lt (by omega : i < zs.length), hzk, getElem!_def, List.getElem?_eq_getElem (by omega : i < zs.length), Nat.mod_eq_of_lt hi]
        · rw [List.getElem?_eq_none (by simp; omega), List.getElem?_eq_none (by omega)]
      · rw [← ih]
        apply List.map_congr_left
        intro i _
        simp [hzk]
  have hfill : Instr.fill (fun i => some (i * k, k)) ((Array.range (len * k)).map (fun i => zs.toArray[i % zs.toArray.size]!)) (ps.toList.map fun p => (p.1, a.eval p.2)) = some cs' := by rw [harr]; exact hcs
  have hfill' : Instr.fill (fun i => some (i * k, k)) ((Array.range (len * k)).map (fun i => z.cells[i % z.cells.size]!)) (ps.toList.map fun p => (p.1, a.eval p.2)) = some cs' := by rw [hz2]; exact hfill
  have hu := (esz_spec hk).1
  have hrun : (execOp a.eval o).run P w = .ok (.value (.slice (some ⟨w.heap.size, 0, none⟩) len len)) (w.alloc (.cells cs' (P.elem t))) := by
    by_cases hl0 : len * k = 0
    · have hl : len = 0 := by rcases Nat.mul_eq_zero.1 hl0 with h | h; exact h; omega
      subst hl
      simp only [Nat.zero_mul, Array.range_zero', Array.map_empty] at hfill
      simp [execOp, ho, Instr.buildSlice, run_underlying hu, run_sizeElem hk, hl0, newRow, hfill, Array.range_zero']
    · skip
      have h24 : ¬ 16777216 < len * k := by simpa using hlen
      simp [execOp, ho, Instr.buildSlice, run_underlying hu, run_sizeElem hk, hl0, hz1, newRow, hfill', h24]
  have hsz0 : cs'.size = len * k := by
    have : cs'.size = ((List.replicate len zs).flatten.map fun z => S.d (.v z)).length := by
      have hfs : ∀ (l : List (Nat × S)) (c o : List S), fillS (fun i => some (i * k, k)) c l = some o → o.length = c.length := by
        intro l
        induction l with
        | nil => intro c o h; simp only [fillS, Option.some.injEq] at h; rw [h]
        | cons p l ih =>
          intro c o h
          obtain ⟨i, s⟩ := p
          simp only [fillS] at h
          split at h
          · split at h
            · rename_i hq _ hcond
              simp only [Option.some.injEq, Prod.mk.injEq] at hq
              obtain ⟨rfl, rfl⟩ := hq
              rw [ih _ _ h]; simp; omega
            · cases h
          · cases h
      rw [hrep.1]; exact hfs _ _ _ hf
    rw [this]; simp [hzk]
  have hss : len * k ≤ ss.length := by rw [← hrep.1, hsz0]; exact Nat.le_refl _
  obtain ⟨r1, r2, r3⟩ := rowsOf_spec k len ss rows hss hr
  have hcell : ∀ (i : Nat) (r : List D) (j : Nat) (d : D), rows[i]? = some r → r[j]? = some d → ∃ y, cs'[i * k + j]? = some y ∧ RepD O w y d ∧ y.oneCell' = true := by
    intro i r j d hi hj
    obtain ⟨y, hy, hr', h1⟩ := hrep.2 _ _ (r3 i r j d hi hj)
    cases hr' with
    | d _ _ hd => exact ⟨y, hy, hd, h1⟩
  have hkeep := Keep.alloc (O := O) (H := H) (w := w) (.cells cs' (P.elem t)) h (.slice (some ⟨w.heap.size, 0, none⟩) len len)
  unfold Oper.wp
  rw [hrun]
  obtain ⟨H', hH'⟩ : ∃ H' : Nat → Value, H' = fun m => if m = h then (.slice (some ⟨w.heap.size, 0, none⟩) len len : Value) else H m := ⟨_, rfl⟩
  have hH : H' h = .slice (some ⟨w.heap.size, 0, none⟩) len len := by rw [hH']; simp
  rw [← hH'] at hkeep
  have ho' := RepS.o (O := fun b => if b = w.heap.size then h + 1 else O b) (w := w.alloc (.cells cs' (P.elem t))) (H := H') h (by rw [hH]; rfl)
  rw [hH] at ho'
  refine hK _ _ _ _ hkeep ((Below.refl _ _).alloc (Nat.le_refl _) _) ho' (fun h' m he => ?_)
  simp only [Option.some.injEq, Prod.mk.injEq] at he
  obtain ⟨rfl, rfl⟩ := he
  refine .inr ⟨w.heap.size, len, cs', by rw [hH, r1], hB, by simp, heap_new w _, by omega, by simp only [maxLen]; have := Nat.le_mul_of_pos_right len hk0; omega, hsz0, r2, fun i r j d hi hj => ?_⟩
  obtain ⟨y, hy, hr', h1⟩ := hcell i r j d hi hj
  exact ⟨y, hy, hr'.mono hkeep.keeps, h1⟩
end
end Go.Eng
end

section
/- Runs of plans: states are sets; costs. -/

set_option linter.unusedSimpArgs false
set_option linter.unnecessarySimpa false
set_option linter.unusedVariables false
namespace Go.Eng
section
variable {t : Tsk} {s l : List Int}
theorem runK_brk {k n : Nat} (hk : k < n) (h : runK t s l k = k) (hc : ¬ canS t (stS t s l k) (nth l k)) : runK t s l n = k := by
  have := runK_f h hc (n - (k + 1))
  rwa [show k + 1 + (n - (k + 1)) = n by omega] at this
structure StP (t : Tsk) (s : List Int) : Prop where
  so : s.Pairwise (· < ·)
  rg : ∀ x, x ∈ s → 0 ≤ x ∧ x < t.facts
theorem StP.len (hV : TskV t) (h : StP t s) : s.length ≤ 24 := by
  have := pw_lt_len (n := t.facts) (x := 0) h.so (fun y hy => h.rg y hy)
  have := hV.facts
  omega
theorem st_ini (hV : TskV t) : StP t t.ini := ⟨setP_sorted hV.ini, fun x hx => setP_mem hV.ini hx⟩
theorem st_ok (hV : TskV t) (hs : StP t s) (hl : PlanP t.ops.length l) : ∀ {k : Nat}, k ≤ l.length → StP t (stS t s l k)
  | 0, _ => hs
  | k + 1, hk => by
    have ih := st_ok hV hs hl (k := k) (by omega)
    refine ⟨up_lt, fun x hx => ?_⟩
    simp only [stS] at hx
    rw [up_mem] at hx
    rcases hx with hx | hx
    · exact ih.rg x hx.1
    · obtain ⟨n, hn⟩ := Int.eq_ofNat_of_zero_le (hl k (by omega)).1
      have h2 := (hl k (by omega)).2
      rw [hn] at hx h2
      exact setP_mem (hV.op n (by omega)).1.2.1 hx
def cstTo (t : Tsk) (l : List Int) (k : Nat) : Int := sm k fun i => (nth t.ops (nth l i)).cost
theorem cst_in (hV : TskV t) (hl : PlanP t.ops.length l) {k : Nat} (hk : k < l.length) : 0 ≤ (nth t.ops (nth l k)).cost ∧ (nth t.ops (nth l k)).cost ≤ 100 := by
  obtain ⟨n, hn⟩ := Int.eq_ofNat_of_zero_le (hl k hk).1
  have h2 := (hl k hk).2
  rw [hn] at h2 ⊢
  exact (hV.op n (by omega)).2
theorem cst_le (hV : TskV t) (hl : PlanP t.ops.length l) : ∀ {k : Nat}, k ≤ l.length → 0 ≤ cstTo t l k ∧ cstTo t l k ≤ 100 * k
  | 0, _ => by simp [cstTo, sm]
  | k + 1, hk => by
    have h1 := cst_le hV hl (k := k) (by omega)
    have h2 := cst_in hV hl (k := k) (by omega)
    unfold cstTo at h1 ⊢
    rw [sm_s]
    omega
def cstR (t : Tsk) (l : List Int) : Int := if planF2 t l = (0, 0) then cstTo t l l.length else 0
theorem cstR_0 (h : planF2 t l = (0, 0)) : cstR t l = cstTo t l l.length := by unfold cstR; rw [if_pos h]
theorem cstR_1 (h : planF2 t l ≠ (0, 0)) : cstR t l = 0 := by unfold cstR; rw [if_neg h]
def slvB (t : Tsk) (l : List Int) : Bool := decide (planF2 t l = (0, 0)) && wrkB t t.ini l
theorem slv_0 (h : planF2 t l = (0, 0)) : slvB t l = wrkB t t.ini l := by unfold slvB; simp [h]
theorem slv_1 (h : planF2 t l ≠ (0, 0)) : slvB t l = false := by unfold slvB; simp [h]
theorem wrk_f (h : runK t s l l.length ≠ l.length) : wrkB t s l = false := by unfold wrkB; simp [h]
theorem wrk_t (h : runK t s l l.length = l.length) : wrkB t s l = decide (SubP t.goal (stS t s l l.length)) := by unfold wrkB; simp [h]
end
end Go.Eng
end

section
/- The counts of a plan are a point of the program of counting. -/

set_option linter.unusedSimpArgs false
set_option linter.unnecessarySimpa false
set_option linter.unusedVariables false
namespace Go.Eng
theorem sm_le_one {f : Nat → Int} {i0 : Nat} : ∀ {n : Nat}, (∀ i, i < n → f i ≤ 0) → i0 < n → sm n f ≤ f i0
  | 0, _, h => by omega
  | n + 1, h, hi => by
    rw [sm_s]
    have h1 := h n (by omega)
    by_cases hn : i0 = n
    · subst hn
      have : sm i0 f ≤ sm i0 fun _ => 0 := sm_le fun i hi => h i (by omega)
      rw [sm_zero (f := fun _ => (0 : Int)) (fun _ _ => rfl)] at this
      omega
    · have := sm_le_one (fun i hi => h i (by omega)) (i0 := i0) (n := n) (by omega)
      omega
section
variable {t : Tsk} {l : List Int}
theorem cn_sum {n : Nat} {f : Nat → Int} (hl : PlanP n l) : ∀ {k : Nat}, k ≤ l.length → sm n (fun j => f j * cnI l j k) = sm k fun i => f (nth l i).toNat
  | 0, _ => sm_zero fun j hj => by rw [cnI_0, Int.mul_zero]
  | k + 1, hk => by
    have ih := cn_sum hl (f := f) (k := k) (by omega)
    obtain ⟨m, hm⟩ := Int.eq_ofNat_of_zero_le (hl k (by omega)).1
    have hmn : m < n := by have := (hl k (by omega)).2; omega
    rw [sm_s, ← ih]
    have e1 : sm n (fun j => f j * cnI l j (k + 1)) = sm n fun j => f j * cnI l j k + (if j = m then f j else 0) := sm_congr fun j hj => by
      by_cases hjm : j = m
      · subst hjm; rw [if_pos rfl, cnI_t (by omega) hm, Int.mul_add, Int.mul_one]
      · rw [if_neg hjm, cnI_f (by omega) (by rw [hm]; omega), Int.add_zero]
    rw [e1, sm_add]
    have e2 : sm n (fun j => if j = m then f j else 0) = f m := by
      rw [sm_one (i0 := m) hmn (fun i hi hne => if_neg hne), if_pos rfl]
    rw [e2, hm]
    rfl
theorem lmTo_p {q : Int} : ∀ {k : Nat}, q ∈ lmTo t k → lmP t q = true
  | 0, h => by simp [lmTo] at h
  | k + 1, h => by
    by_cases c : lmP t k = true
    · rw [lm_t c, List.mem_append, List.mem_singleton] at h
      rcases h with h | rfl
      · exact lmTo_p h
      · exact c
    · rw [lm_f c] at h; exact lmTo_p h
theorem acTo_p {q : Int} {m : Nat} (h : acP t q m = true) : ∀ {k : Nat}, m < k → (m : Int) ∈ acTo t q k
  | 0, hk => by omega
  | k + 1, hk => by
    by_cases hmk : m = k
    · subst hmk; rw [ac_t h]; simp
    · have ih := acTo_p h (k := k) (by omega)
      by_cases c : acP t q k = true
      · rw [ac_t c]; exact List.mem_append.2 (.inl ih)
      · rw [ac_f c]; exact ih
theorem sub_mem {a b : List Int} (h : SubP a b) {x : Int} (hx : x ∈ a) : x ∈ b := by
  obtain ⟨i, hi, he⟩ := List.getElem_of_mem hx
  rw [← nth_eq hi] at he
  rw [← he]; exact h i hi
theorem disj_mem {a b : List Int} (h : DisjP a b) {x : Int} (hx : x ∈ a) : x ∉ b := by
  obtain ⟨i, hi, he⟩ := List.getElem_of_mem hx
  rw [← nth_eq hi] at he
  rw [← he]; exact h i hi
/-- The plan works: all its steps can be done, and the goal holds at the end. -/
structure Wrk (t : Tsk) (l : List Int) : Prop where
  hv : TskV t
  hl : PlanP t.ops.length l
  c : ∀ i : Nat, i < l.length → canS t (stS t t.ini l i) (nth l i)
  g : SubP t.goal (stS t t.ini l l.length)
theorem wrk_of (hV : TskV t) (hl : PlanP t.ops.length l) (h : wrkB t t.ini l = true) : Wrk t l := by
  unfold wrkB at h
  simp only [decide_eq_true_eq] at h
  exact ⟨hV, hl, runK_ok h.1, h.2⟩
def inI (q : Int) (s : List Int) : Int := if q ∈ s then 1 else 0
theorem Wrk.op (h : Wrk t l) {k : Nat} (hk : k < l.length) : ∃ m : Nat, nth l k = m ∧ m < t.ops.length := by
  obtain ⟨m, hm⟩ := Int.eq_ofNat_of_zero_le (h.hl k hk).1
  exact ⟨m, hm, by have := (h.hl k hk).2; omega⟩
theorem Wrk.chg (h : Wrk t l) (q : Int) : ∀ {k : Nat}, k ≤ l.length → inI q (stS t t.ini l k) - inI q t.ini ≤ sm k fun i => chgO (nth t.ops (nth l i)) q
  | 0, _ => by simp [stS, sm]
  | k + 1, hk => by
    have ih := h.chg q (k := k) (by omega)
    have hc := h.c k (by omega)
    obtain ⟨m, hm, hmn⟩ := h.op (k := k) (by omega)
    have hdj := (h.hv.op m hmn).1.2.2.2
    have hmem : q ∈ stS t t.ini l (k + 1) ↔ (q ∈ stS t t.ini l k ∧ q ∉ (nth t.ops (nth l k)).del) ∨ q ∈ (nth t.ops (nth l k)).add := up_mem
    rw [sm_s]
    unfold canS at hc
    rw [hm] at hc hmem ⊢
    have hstep : inI q (stS t t.ini l (k + 1)) - inI q (stS t t.ini l k) ≤ chgO (nth t.ops (m : Int)) q := by
      unfold inI chgO
      by_cases h1 : q ∈ stS t t.ini l (k + 1)
      · rw [if_pos h1]
        by_cases h2 : q ∈ stS t t.ini l k
        · rw [if_pos h2]
          split
          · omega
          · split
            · rename_i hh
              rcases hmem.1 h1 with h3 | h3
              · exact absurd hh.2 h3.2
              · exact absurd hh.2 (disj_mem hdj h3)
            · omega
        · rw [if_neg h2]
          have h3 : q ∈ (nth t.ops (m : Int)).add := by
            rcases hmem.1 h1 with h3 | h3
            · exact absurd h3.1 h2
            · exact h3
          rw [if_pos ⟨fun hp => h2 (sub_mem hc hp), h3⟩]
          omega
      · rw [if_neg h1]
        by_cases h2 : q ∈ stS t t.ini l k
        · rw [if_pos h2]
          split
          · omega
          · split <;> omega
        · rw [if_neg h2]
          split
          · omega
          · split
            · rename_i hh; exact absurd (sub_mem hc hh.1) h2
            · omega
    omega
theorem Wrk.rch (h : Wrk t l) {q : Int} (hq : q ∉ t.ini) (hn : ∀ i : Nat, i < l.length → nth l i ∉ acL t q) : ∀ {k : Nat}, k ≤ l.length → ∀ x, x ∈ stS t t.ini l k → Rch t t.ini (useP t q) x
  | 0, _, x, hx => .base hx
  | k + 1, hk, x, hx => by
    have ih := h.rch hq hn (k := k) (by omega)
    have hc := h.c k (by omega)
    have hnk := hn k (by omega)
    obtain ⟨m, hm, hmn⟩ := h.op (k := k) (by omega)
    have hop := (h.hv.op m hmn).1
    have hmem : x ∈ stS t t.ini l (k + 1) ↔ (x ∈ stS t t.ini l k ∧ x ∉ (nth t.ops (nth l k)).del) ∨ x ∈ (nth t.ops (nth l k)).add := up_mem
    unfold canS at hc
    rw [hm] at hc hmem hnk
    rcases hmem.1 hx with h1 | h1
    · exact ih x h1.1
    · have hpre : ∀ y, y ∈ (nth t.ops (m : Int)).pre → Rch t t.ini (useP t q) y := fun y hy => ih y (sub_mem hc hy)
      refine .op hmn ?_ hpre h1
      unfold useP
      simp only [Bool.not_eq_true', decide_eq_false_iff_not]
      intro hqa
      refine hnk (acTo_p ?_ hmn)
      have : AllP (wtoL t q) (nth t.ops (m : Int)).pre := fun i hi => by
        have hy : nth (nth t.ops (m : Int)).pre i ∈ (nth t.ops (m : Int)).pre := nth_mem (by omega) (by omega)
        have hr := setP_mem hop.1 hy
        exact (cloL_at hr.1 hr.2).2 (hpre _ hy)
      unfold acP
      simp [hq, hqa, this]
theorem Wrk.lm (h : Wrk t l) {q : Int} (hq : q ∉ t.ini) (hL : lmP t q = true) : ∃ i : Nat, i < l.length ∧ nth l i ∈ acL t q := by
  refine Classical.byContradiction fun hn => ?_
  have hr := h.rch hq (fun i hi hx => hn ⟨i, hi, hx⟩) (Nat.le_refl _)
  have : AllP (wtoL t q) t.goal := fun i hi => by
    have hy : nth t.goal i ∈ t.goal := nth_mem (by omega) (by omega)
    have hg := setP_mem h.hv.goal hy
    exact (cloL_at hg.1 hg.2).2 (hr _ (sub_mem h.g hy))
  unfold lmP at hL
  simp [hq, this] at hL
theorem Wrk.row (h : Wrk t l) {r : List Int} {b : Int} (hrl : r.length = t.ops.length) (hs : (sm l.length fun i => nth r (nth l i)) ≤ b) : sm t.ops.length (fun j => nth r j * cnI l j l.length) ≤ b := by
  rw [cn_sum (f := fun j => nth r j) h.hl (Nat.le_refl _)]
  have e : (sm l.length fun i => nth r ((nth l i).toNat : Int)) = sm l.length fun i => nth r (nth l i) := sm_congr fun i hi => by
    obtain ⟨m, hm, hmn⟩ := h.op hi
    rw [hm]; rfl
  rw [e]; exact hs
theorem cp_row (i : Nat) (hi : i < (cpA t).rws.length) : (∃ q, q ∈ t.goal ∧ nth (cpA t).rws i = gRow t q ∧ nth (cpA t).bnd i = gBnd t q) ∨ (∃ q, q ∈ lmN t ∧ nth (cpA t).rws i = lRow t q ∧ nth (cpA t).bnd i = -1) := by
  have hi' : i < 6 ∧ i < t.goal.length + (lmN t).length := by simp [cpA] at hi; omega
  have h1 : i < (cpA t).rws.length := hi
  have h2 : i < (cpA t).bnd.length := by simp [cpA]; omega
  rw [nth_eq h1, nth_eq h2]
  simp only [cpA]
  rw [List.getElem_take, List.getElem_take]
  by_cases hg : i < t.goal.length
  · refine .inl ⟨t.goal[i], List.getElem_mem hg, ?_, ?_⟩
    · rw [List.getElem_append_left (by simpa using hg), List.getElem_map]
    · rw [List.getElem_append_left (by simpa using hg), List.getElem_map]
  · refine .inr ⟨(lmN t)[i - t.goal.length]'(by omega), List.getElem_mem _, ?_, ?_⟩
    · rw [List.getElem_append_right (by simpa using Nat.le_of_not_lt hg)]
      simp
    · rw [List.getElem_append_right (by simpa using Nat.le_of_not_lt hg)]
      simp
theorem Wrk.pt (h : Wrk t l) : Pt (cpA t) (fun j => cnI l j l.length) 1 := by
  refine ⟨by decide, fun j hj => (cnI_le (k := l.length)).1, fun i hi => ?_⟩
  rw [cpA_ol, Int.mul_one]
  rcases cp_row i hi with ⟨q, hq, e1, e2⟩ | ⟨q, hq, e1, e2⟩
  · rw [e1, e2]
    refine h.row (by simp [gRow]) ?_
    have e : (sm l.length fun i => nth (gRow t q) (nth l i)) = -(sm l.length fun i => chgO (nth t.ops (nth l i)) q) := by
      rw [← sm_neg]
      exact sm_congr fun i hi => by
        obtain ⟨m, hm, hmn⟩ := h.op hi
        rw [hm]
        unfold gRow
        rw [nth_eq (by simpa using hmn), nth_eq hmn, List.getElem_map]
    have hc := h.chg q (Nat.le_refl _)
    have hg : inI q (stS t t.ini l l.length) = 1 := if_pos (sub_mem h.g hq)
    rw [e]
    unfold gBnd
    unfold inI at hc hg
    rw [hg] at hc
    split <;> rename_i hh
    · rw [if_pos hh] at hc; omega
    · rw [if_neg hh] at hc; omega
  · rw [e1, e2]
    refine h.row (by simp [lRow]) ?_
    unfold lmN at hq
    rw [List.mem_filter] at hq
    obtain ⟨i0, hi0, hm0⟩ := h.lm (by simpa using hq.2) (lmTo_p hq.1)
    have hat : ∀ i : Nat, i < l.length → nth (lRow t q) (nth l i) = if nth l i ∈ acL t q then -1 else 0 := fun i hi => by
      obtain ⟨m, hm, hmn⟩ := h.op hi
      rw [hm]
      unfold lRow
      rw [nth_eq (by simpa using hmn)]
      simp
    have := sm_le_one (f := fun i => nth (lRow t q) (nth l i)) (n := l.length) (fun i hi => by rw [hat i hi]; split <;> omega) hi0
    rw [hat i0 hi0, if_pos hm0] at this
    exact this
theorem Wrk.cost (h : Wrk t l) : (sm t.ops.length fun j => (nth t.ops j).cost * cnI l j l.length) = cstTo t l l.length := by
  rw [cn_sum (f := fun j => (nth t.ops j).cost) h.hl (Nat.le_refl _)]
  unfold cstTo
  exact sm_congr fun i hi => by
    obtain ⟨m, hm, hmn⟩ := h.op hi
    rw [hm]; rfl
theorem Wrk.bnd (h : Wrk t l) {N D : Int} (hB : CpB t N D) : N ≤ cstTo t l l.length * D := by
  obtain ⟨hr, hB | ⟨-, hB⟩⟩ := hB
  · exact absurd h.pt (hB.1 _ _)
  · have := hB _ _ h.pt
    rw [h.cost] at this
    omega
theorem cp_feas (h0 : cpF t = (0, 0)) (h1 : planF2 t l = (0, 0)) (h : Wrk t l) : LpC (cpR t) ∧ (cntR t l).length = (cpR t).obj.length ∧ (∀ i : Nat, i < (cntR t l).length → 0 ≤ nth (cntR t l) i ∧ nth (cntR t l) i ≤ 1000000) ∧
    ∀ i : Nat, i < (cpR t).rws.length → sm (cpR t).obj.length (fun j => nth (nth (cpR t).rws i) j * nth (cntR t l) j) ≤ nth (cpR t).bnd i * 1 := by
  obtain ⟨q0, q1, q2⟩ := planF2_ok h1
  rw [← cpR_0 h0]
  have hc : ∀ j : Nat, j < t.ops.length → nth (cntR t l) j = cnI l j l.length := fun j hj => by rw [cntR_0 h1]; exact cntTo_at hj
  have hl : (cntR t l).length = t.ops.length := by rw [cntR_0 h1, cntTo_len]
  refine ⟨cpA_lc h0, by rw [hl, cpA_ol], fun i hi => ?_, fun i hi => ?_⟩
  · rw [hc i (by omega)]
    have := cnI_le (l := l) (x := i) (k := l.length)
    omega
  · have := h.pt.row i hi
    have e : (sm (cpA t).obj.length fun j => nth (nth (cpA t).rws i) j * nth (cntR t l) j) = sm (cpA t).obj.length fun j => nth (nth (cpA t).rws i) j * cnI l j l.length := sm_congr fun j hj => by
      rw [cpA_ol] at hj
      rw [hc j hj]
    rw [e]; exact this
end
end Go.Eng
end

section
/- Walks, written by gen.py out of hints. -/



set_option linter.unusedVariables false
set_option linter.unusedSimpArgs false
namespace Go.Proofs.Ytlidcpmdgceboaa
open Go.Eng
set_option maxRecDepth 10000
set_option maxHeartbeats 1000000

theorem linear_product_does (a b : List Int) (h : a.length ≤ b.length) (h1 : ∀ k : Nat, k ≤ a.length → inB (sm k (fun j => nth a j * nth b j))) (h2 : ∀ k : Nat, k < a.length → inB (nth a k * nth b k)) : Does Try.prog false 81 [.d (ints a), .d (ints b)] (I (sm a.length (fun j => nth a j * nth b j))) := by
 refine Does.of_body Try.func81 rfl rfl (by simp) Try.call81 (fun w0 O0 => ?_); refine .lenLe (n := 0) rfl (fun len0 => ?_); refine .lenLe (n := 1) rfl (fun len1 => ?_); refine .seq ?_; refine .region ?_; refine .a ?_; refine .z ?_; refine .a ?_; refine .sq ?_; refine .seq ?_; refine .seq ?_; refine .region ?_; refine .m ?_; refine .x (OpSem.lenL rfl rfl es22) ?_; refine .m ?_; refine .sq ?_; refine .block ?_; refine .loop (X := Nat) (fun k => k ≤ a.length) (fun k => [(0, .d (ints a)), (1, .d (ints b)), (5, I (sm k (fun j => nth a j * nth b j))), (8, I (a.length)), (9, I (k))]) (fun k => []) (fun k => a.length - k) 0 (by omega) ?_ ?_
 ·exact .slot rfl (.refl _) <| .slot rfl (.refl _) <| .slot rfl (Le.of_eq rfl) <| .slot rfl (.refl _) <| .slot rfl (Le.of_eq (by simp)) <| .nil
 ·rintro k hkl
  refine .seq ?_; refine .region ?_; refine .x (.b blss) ?_; refine .sq ?_; refine .seq ?_; refine .cond rfl (fun c10 => ?_) (fun c10 => ?_)
  ·have hk : k < a.length := by simpa using c10
   have g1 := h1 k (by omega)
   have g2 := h2 k hk
   unfold inB at g1 g2
   refine .skip ?_; refine .seq ?_; refine .seq ?_; refine .block ?_; refine .seq ?_; refine .region ?_; refine .m ?_; refine .a ?_; refine .sq ?_; refine PC.start [] ?_; refine .m ?_; refine .m ?_; refine .m ?_; refine .x (OpSem.idxL rfl rfl rfl es22 (by omega) (by omega)) ?_; refine .x (OpSem.load1 rfl rfl vs3 rfl) ?_; refine .m ?_; refine .m ?_; refine .x (OpSem.idxL rfl rfl rfl es22 (by omega) (by omega)) ?_; refine .x (OpSem.load1 rfl rfl vs3 rfl) ?_; refine .x (OpSem.bin rfl rfl rfl (bmul (by omega) (by omega))) ?_; refine .d0 mixed ?_; refine .x .ad ?_; refine .a ?_; refine .nil ?_; refine .block_normal ?_; refine .y ?_; refine .x .ad ?_; refine .m ?_; refine .nil ?_; refine .again (k + 1) (by omega) ?_ (by omega); exact .slot rfl (.refl _) <| .slot rfl (.refl _) <| .slot rfl (Le.of_eq rfl) <| .slot rfl (.refl _) <| .slot rfl (Le.of_eq (by simp)) <| .nil
  ·have hk : k = a.length := by simp at c10; omega
   subst hk
   refine .exit ?_; refine .pass_exit ?_; refine .pass_exit ?_; refine .block_same ?_; refine .z ?_; refine .m ?_; refine .a ?_; refine .sq ?_; refine .ret ?_; exact .ret rfl (.tmp rfl <| .nil) rfl (.refl _)

theorem linear_negative_does (l : List Int) (hx : ∀ i : Nat, i < l.length → 0 ≤ nth l i ∧ nth l i ≤ 1000000) : Does Try.prog false 82 [.d (ints l)] (Bo false) := by
 refine Does.of_body Try.func82 rfl rfl (by simp) Try.call82 (fun w0 O0 => ?_); refine .lenLe (n := 0) rfl (fun len0 => ?_); refine .seq ?_; refine .region ?_; refine .a ?_; refine .sq ?_; refine .seq ?_; refine .seq ?_; refine .region ?_; refine .m ?_; refine .x (OpSem.lenL rfl rfl es22) ?_; refine .m ?_; refine .sq ?_; refine .block ?_; refine .loop (X := Nat) (fun k => k ≤ l.length) (fun k => [(5, .d (ints l)), (6, I (l.length)), (7, I (k))]) (fun k => []) (fun k => l.length - k) 0 (by omega) ?_ ?_
 ·exact .slot rfl (.refl _) <| .slot rfl (.refl _) <| .slot rfl (Le.of_eq (by simp)) <| .nil
 ·rintro k hkl
  refine .seq ?_; refine .region ?_; refine .x (.b blss) ?_; refine .sq ?_; refine .seq ?_; refine .cond rfl (fun c8 => ?_) (fun c8 => ?_)
  ·have hk : k < l.length := by simpa using c8
   have hxk := hx k hk
   refine .skip ?_; refine .seq ?_; refine .seq ?_; refine .block ?_; refine .seq ?_; refine .region ?_; refine .x (OpSem.idxL rfl rfl rfl es22 (by omega) (by omega)) ?_; refine .x (OpSem.load1 rfl rfl vs3 rfl) ?_; refine .a ?_; refine .z ?_; refine .m ?_; refine .x (.b blss) ?_; refine .sq ?_; refine .cond rfl (fun c12 => ?_) (fun c12 => ?_)
   ·exfalso; simp at c12; omega
   ·refine .skip ?_; refine .block_normal ?_; refine .y ?_; refine .x .ad ?_; refine .m ?_; refine .nil ?_; refine .again (k + 1) (by omega) ?_ (by omega); exact .slot rfl (.refl _) <| .slot rfl (.refl _) <| .slot rfl (Le.of_eq (by simp)) <| .nil
  ·have hk : k = l.length := by simp at c8; omega
   refine .exit ?_; refine .pass_exit ?_; refine .pass_exit ?_; refine .block_same ?_; refine .z ?_; refine .a ?_; refine .sq ?_; refine .ret ?_; exact .ret rfl (.tmp rfl <| .nil) rfl (.refl _)

theorem linear_fits_does (p : LPr) (l : List Int) (hp : LpC p) (hl : l.length = p.obj.length) (hx : ∀ i : Nat, i < l.length → 0 ≤ nth l i ∧ nth l i ≤ 1000000) (hf : ∀ i : Nat, i < p.rws.length → sm p.obj.length (fun j => nth (nth p.rws i) j * nth l j) ≤ nth p.bnd i * 1) : Does Try.prog false 53 [lprS p, .d (ints l), I (1)] (Bo true) := by
 have z1 := hp.ok.r6
 have z2 := hp.ok.o6
 have z3 := hp.ok.b
 refine Does.of_body Try.func53 rfl rfl (by simp) Try.call53 (fun w0 O0 => ?_); refine .lenG (n := 0) (i := 0) rfl rfl (fun len0_0 => ?_); refine .lenG (n := 0) (i := 1) rfl rfl (fun len0_1 => ?_); refine .lenG (n := 0) (i := 2) rfl rfl (fun len0_2 => ?_); refine .lenLe (n := 1) rfl (fun len1 => ?_); refine .seq ?_; refine .region ?_; refine .semM (OpSem.box 3 rfl rfl rfl rfl) rfl rfl (by decide) ?_; refine .a ?_; refine .sq ?_; refine .seq ?_; refine .seq ?_; refine .region ?_; refine .x (.f fo39_0) ?_; refine .x (.l vs37) ?_; refine .x (OpSem.lenL rfl rfl es37) ?_; refine .m ?_; refine .sq ?_; refine .block ?_; refine .loop (X := Nat) (fun k => k ≤ p.rws.length) (fun k => [(1, .d (ints l)), (2, I (1)), (3, .r 3 0), (10, .d (rows p.rws)), (11, I (p.rws.length)), (12, I (k))]) (fun k => [(3, .box [.d (rows p.rws), .d (ints p.bnd), .d (ints p.obj)])]) (fun k => p.rws.length - k) 0 (by omega) ?_ ?_
 ·exact .slot rfl (.refl _) <| .slot rfl (.refl _) <| .slot rfl (.refl _) <| .slot rfl (.refl _) <| .slot rfl (.refl _) <| .slot rfl (Le.of_eq (by simp)) <| .mem rfl <| .nil
 ·rintro k hkl
  refine .seq ?_; refine .region ?_; refine .x (.b blss) ?_; refine .sq ?_; refine .seq ?_; refine .cond rfl (fun c13 => ?_) (fun c13 => ?_)
  ·have hk : k < p.rws.length := by simpa using c13
   have hw := hp.ok.w k hk
   have hb := hp.b k hk
   have hfk := hf k hk
   rw [← hw] at hfk
   refine .skip ?_; refine .seq ?_; refine .seq ?_; refine .block ?_; refine .seq ?_; refine .region ?_; refine .m ?_; refine .x (OpSem.idxL rfl rfl rfl es37 (by omega) (by omega)) ?_; refine .x (OpSem.load1 rfl rfl vs22 rfl) ?_; refine .a ?_; refine .a ?_; refine .sq ?_; refine .seq ?_; refine PC.start [] ?_; refine .m ?_; refine .m ?_; refine .x (OpSem.call0 (linear_product_does (nth p.rws k) l (by omega) (row_sm hp hk hl hx) (row_ml hp hk hl hx)) rfl rfl rfl rfl (Les.refl _)) ?_; refine .x (.f fo39_1) ?_; refine .x (.l vs22) ?_; refine .m ?_; refine .x (OpSem.idxL rfl rfl rfl es22 (by omega) (by omega)) ?_; refine .x (OpSem.load1 rfl rfl vs3 rfl) ?_; refine .m ?_; refine .x (OpSem.bin rfl rfl rfl (bmul (by omega) (by omega))) ?_; refine .d0 mixed ?_; refine .x (.b bgtr) ?_; refine .sq ?_; refine .cond rfl (fun c27 => ?_) (fun c27 => ?_)
   ·exfalso; simp at c27; omega
   ·refine .skip ?_; refine .block_normal ?_; refine .y ?_; refine .x .ad ?_; refine .m ?_; refine .nil ?_; refine .again (k + 1) (by omega) ?_ (by omega); exact .slot rfl (.refl _) <| .slot rfl (.refl _) <| .slot rfl (.refl _) <| .slot rfl (.refl _) <| .slot rfl (.refl _) <| .slot rfl (Le.of_eq (by simp)) <| .mem rfl <| .nil
  ·have hk : k = p.rws.length := by simp at c13; omega
   refine .exit ?_; refine .pass_exit ?_; refine .pass_exit ?_; refine .block_same ?_; refine .z ?_; refine .m ?_; refine .x (OpSem.call0 (linear_negative_does l hx) rfl rfl rfl rfl (Les.refl _)) ?_; refine .x (OpSem.not rfl rfl) ?_; refine .a ?_; refine .sq ?_; refine .ret ?_; exact .ret rfl (.tmp rfl <| .nil) rfl (.refl _)

theorem linear_vectorCode_does (l : List Int) (n : Nat) (hn : n ≤ 1000000) (hl : l.length = n) (hx : ∀ i : Nat, i < l.length → 0 ≤ nth l i ∧ nth l i ≤ 1000000) : Does Try.prog false 79 [.g [.d (ints l), I (1)], I ((n : Int))] (I 0) := by
 refine Does.of_body Try.func79 rfl rfl (by simp) Try.call79 (fun w0 O0 => ?_); refine .lenG (n := 0) (i := 0) rfl rfl (fun len0_0 => ?_); refine .seq ?_; refine .region ?_; refine .semM (OpSem.box 2 rfl rfl rfl rfl) rfl rfl (by decide) ?_; refine .a ?_; refine .sq ?_; refine .seq ?_; refine .seq ?_; refine .region ?_; refine .x (.f fo59_0) ?_; refine .x (.l vs22) ?_; refine .x (OpSem.lenL rfl rfl es22) ?_; refine .m ?_; refine .x (.b bneq) ?_; refine .sq ?_; refine .cond rfl (fun c12 => ?_) (fun c12 => ?_)
 ·exfalso; simp at c12; omega
 ·refine .skip ?_; refine .seq ?_; refine .seq ?_; refine .seq ?_; refine .region ?_; refine .x (.f fo59_1) ?_; refine .x (.l vs3) ?_; refine .x (.b blss) ?_; refine .m ?_; refine .split (n := 16) rfl (fun c16 => ?_) (fun c16 => ?_)
  ·exfalso; simp at c16
  ·refine .ht c16 ?_; refine .x (.f fo59_1) ?_; refine .ht c16 ?_; refine .x (.l vs3) ?_; refine .ht c16 ?_; refine .x (.b bgtr) ?_; refine .x (OpSem.pickF rfl rfl c16 rfl) ?_; refine .sq ?_; refine .cond rfl (fun c20 => ?_) (fun c20 => ?_)
   ·exfalso; simp at c20
   ·refine .skip ?_; refine .z ?_; refine .x (.f fo59_1) ?_; refine .x (.l vs3) ?_; refine .a ?_; refine .sq ?_; refine .seq ?_; refine .seq ?_; refine .region ?_; refine .x (.f fo59_0) ?_; refine .x (.l vs22) ?_; refine .x (OpSem.lenL rfl rfl es22) ?_; refine .m ?_; refine .sq ?_; refine .block ?_; refine .loop (X := Nat) (fun k => k ≤ l.length) (fun k => [(5, I (1)), (24, .d (ints l)), (25, I (l.length)), (26, I (k))]) (fun k => []) (fun k => l.length - k) 0 (by omega) ?_ ?_
    ·exact .slot rfl (Le.of_eq rfl) <| .slot rfl (.refl _) <| .slot rfl (.refl _) <| .slot rfl (Le.of_eq (by simp)) <| .nil
    ·rintro k hkl
     refine .seq ?_; refine .region ?_; refine .x (.b blss) ?_; refine .sq ?_; refine .seq ?_; refine .cond rfl (fun c27 => ?_) (fun c27 => ?_)
     ·have hk : k < l.length := by simpa using c27
      have hxk := hx k hk
      refine .skip ?_; refine .seq ?_; refine .seq ?_; refine .block ?_; refine .seq ?_; refine .region ?_; refine .x (OpSem.idxL rfl rfl rfl es22 (by omega) (by omega)) ?_; refine .x (OpSem.load1 rfl rfl vs3 rfl) ?_; refine .a ?_; refine .sq ?_; refine .seq ?_; refine .seq ?_; refine .region ?_; refine .m ?_; refine .x (OpSem.call0 (linear_within_does (nth l k) 100000000 (by omega) (by omega)) rfl rfl rfl rfl (Les.refl _)) ?_; refine .x (OpSem.not rfl rfl) ?_; refine .sq ?_; refine .cond rfl (fun c32 => ?_) (fun c32 => ?_)
      ·exfalso; simp at c32; omega
      ·refine .skip ?_; refine .y ?_; refine .m ?_; refine .m ?_; refine .x (OpSem.call0 (linear_gcd_does 1 (nth l k) (by omega) (by omega)) rfl rfl rfl rfl (Les.refl _)) ?_; refine .a ?_; refine .nil ?_; refine .block_normal ?_; refine .y ?_; refine .x .ad ?_; refine .m ?_; refine .nil ?_; refine .again (k + 1) (by omega) ?_ (by omega); exact .slot rfl (Le.i (by simp)) <| .slot rfl (.refl _) <| .slot rfl (.refl _) <| .slot rfl (Le.of_eq (by simp)) <| .nil
     ·have hk : k = l.length := by simp at c27; omega
      refine .exit ?_; refine .pass_exit ?_; refine .pass_exit ?_; refine .block_same ?_; refine .seq ?_; refine .seq ?_; refine .seq ?_; refine .region ?_; refine .m ?_; refine .x (.b bneq) ?_; refine .sq ?_; refine .cond rfl (fun c38 => ?_) (fun c38 => ?_)
      ·exfalso; simp at c38
      ·refine .skip ?_; refine .z ?_; refine .a ?_; refine .sq ?_; refine .ret ?_; exact .ret rfl (.tmp rfl <| .nil) rfl (.refl _)

theorem linear_check_does (p : LPr) (l : List Int) (hp : LpC p) (hl : l.length = p.obj.length) (hx : ∀ i : Nat, i < l.length → 0 ≤ nth l i ∧ nth l i ≤ 1000000) : Does Try.prog false 52 [lprS p, .d (vecsD ([(l, (1 : Int))] : List (List Int × Int))), .d (vecsD ([] : List (List Int × Int)))] (flt (0, 0)) := by
 have z2 := hp.ok.o6
 refine Does.of_body Try.func52 rfl rfl (by simp) Try.call52 (fun w0 O0 => ?_); refine .lenG (n := 0) (i := 0) rfl rfl (fun len0_0 => ?_); refine .lenG (n := 0) (i := 1) rfl rfl (fun len0_1 => ?_); refine .lenG (n := 0) (i := 2) rfl rfl (fun len0_2 => ?_); refine .lenLe (n := 1) rfl (fun len1 => ?_); refine .lenLe (n := 2) rfl (fun len2 => ?_); refine .seq ?_; refine .region ?_; refine .semM (OpSem.box 3 rfl rfl rfl rfl) rfl rfl (by decide) ?_; refine .semM (OpSem.alloc 6 rfl zc30 rfl) rfl rfl (by decide) ?_; refine .z ?_; refine .x (OpSem.loadbN rfl rfl rfl vs39 (by first | decide | simp)) ?_; refine .x (OpSem.call0 (linear_Validate_does p hp.ok) rfl rfl rfl rfl (Les.refl _)) ?_; refine .semM (OpSem.alloc 7 rfl zc30 rfl) rfl rfl (by decide) ?_; refine .sb vs30 ?_; refine .z ?_; refine .a ?_; refine .sq ?_; refine .seq ?_; refine .seq ?_; refine .region ?_; refine .m ?_; refine .x (OpSem.lenL rfl rfl es92) ?_; refine .m ?_; refine .sq ?_; refine .block ?_; refine .loop (X := Nat) (fun k => k ≤ 1) (fun k => [(2, .d (vecsD ([] : List (List Int × Int)))), (3, .r 3 0), (6, .r 6 0), (7, .r 7 0), (8, I (-4 - (k : Int))), (17, .d (vecsD ([(l, (1 : Int))] : List (List Int × Int)))), (18, I (([(l, (1 : Int))] : List (List Int × Int)).length)), (19, I (k))]) (fun k => [(7, .box [I (0), I (0)]), (3, .box [.d (rows p.rws), .d (ints p.bnd), .d (ints p.obj)]), (6, .box [I (0), I (0)])]) (fun k => 1 - k) 0 (by omega) ?_ ?_
 ·exact .slot rfl (.refl _) <| .slot rfl (.refl _) <| .slot rfl (.refl _) <| .slot rfl (.refl _) <| .slot rfl (Le.of_eq (by simp)) <| .slot rfl (.refl _) <| .slot rfl (.refl _) <| .slot rfl (Le.of_eq (by simp)) <| .mem rfl <| .mem rfl <| .mem rfl <| .nil
 ·rintro k hkl
  refine .seq ?_; refine .region ?_; refine .x (.b blss) ?_; refine .sq ?_; refine .seq ?_; refine .cond rfl (fun c20 => ?_) (fun c20 => ?_)
  ·have hk : k = 0 := by simp at c20; omega
   subst hk
   refine .skip ?_; refine .seq ?_; refine .seq ?_; refine .block ?_; refine .seq ?_; refine .region ?_; refine .x (OpSem.idxL rfl rfl rfl es92 (by omega) (by simp)) ?_; refine .x (OpSem.loadN rfl rfl vs59 (by first | decide | simp) rfl) ?_; refine .semM (OpSem.alloc 10 rfl zc59 rfl) rfl rfl (by decide) ?_; refine .sb vs59 ?_; refine .sq ?_; refine .seq ?_; refine .seq ?_; refine .region ?_; refine .x (OpSem.loadbN rfl rfl rfl vs59 (by first | decide | simp)) ?_; refine .x (.f fo39_2) ?_; refine .x (.l vs22) ?_; refine .x (OpSem.lenL rfl rfl es22) ?_; refine .x (OpSem.call0 (linear_vectorCode_does l p.obj.length (by omega) hl hx) rfl rfl rfl rfl (Les.refl _)) ?_; refine .a ?_; refine .z ?_; refine .x (OpSem.loadbN rfl rfl rfl vs30 (by first | decide | simp)) ?_; refine .x (OpSem.build rfl rfl pl30 zc30 rfl rfl) ?_; refine .x (OpSem.eqS2 rfl rfl rfl io30) ?_; refine .m ?_; refine .split (n := 31) rfl (fun c31 => ?_) (fun c31 => ?_)
   ·refine .gt c31 ?_; refine .m ?_; refine .gt c31 ?_; refine .x (.b bneq) ?_; refine .x (OpSem.pickT rfl rfl c31 rfl) ?_; refine .sq ?_; refine .cond rfl (fun c34 => ?_) (fun c34 => ?_)
    ·exfalso; simp at c34
    ·refine .skip ?_; refine .y ?_; refine .m ?_; refine .x .su ?_; refine .a ?_; refine .nil ?_; refine .block_normal ?_; refine .y ?_; refine .x .ad ?_; refine .m ?_; refine .nil ?_; refine .again 1 (by omega) ?_ (by omega); exact .slot rfl (.refl _) <| .slot rfl (.refl _) <| .slot rfl (.refl _) <| .slot rfl (.refl _) <| .slot rfl (Le.i (by simp)) <| .slot rfl (.refl _) <| .slot rfl (.refl _) <| .slot rfl (Le.of_eq (by simp)) <| .mem rfl <| .mem rfl <| .mem rfl <| .nil
   ·refine .gf c31 ?_; refine .gf c31 ?_; refine .x (OpSem.pickF rfl rfl c31 rfl) ?_; refine .sq ?_; refine .condF rfl rfl ?_; refine .skip ?_; refine .y ?_; refine .m ?_; refine .x .su ?_; refine .a ?_; refine .nil ?_; refine .block_normal ?_; refine .y ?_; refine .x .ad ?_; refine .m ?_; refine .nil ?_; refine .again 1 (by omega) ?_ (by omega); exact .slot rfl (.refl _) <| .slot rfl (.refl _) <| .slot rfl (.refl _) <| .slot rfl (.refl _) <| .slot rfl (Le.i (by simp)) <| .slot rfl (.refl _) <| .slot rfl (.refl _) <| .slot rfl (Le.of_eq (by simp)) <| .mem rfl <| .mem rfl <| .mem rfl <| .nil
  ·have hk : k = 1 := by simp at c20; omega
   subst hk
   refine .exit ?_; refine .pass_exit ?_; refine .pass_exit ?_; refine .block_same ?_; refine .seq ?_; refine .seq ?_; refine .seq ?_; refine .region ?_; refine .m ?_; refine .x (OpSem.lenL rfl rfl es92) ?_; refine .m ?_; refine .sq ?_; refine .block ?_; refine .loop (X := Nat) (fun k => k ≤ 0) (fun k => [(3, .r 3 0), (6, .r 6 0), (7, .r 7 0), (8, I (-5)), (41, .d (vecsD ([] : List (List Int × Int)))), (42, I (([] : List (List Int × Int)).length)), (43, I (k))]) (fun k => [(7, .box [I (0), I (0)]), (3, .box [.d (rows p.rws), .d (ints p.bnd), .d (ints p.obj)]), (6, .box [I (0), I (0)])]) (fun k => 0 - k) 0 (by omega) ?_ ?_
   ·exact .slot rfl (.refl _) <| .slot rfl (.refl _) <| .slot rfl (.refl _) <| .slot rfl (Le.of_eq (by simp)) <| .slot rfl (.refl _) <| .slot rfl (.refl _) <| .slot rfl (Le.of_eq (by simp)) <| .mem rfl <| .mem rfl <| .mem rfl <| .nil
   ·rintro k hkl
    refine .seq ?_; refine .region ?_; refine .x (.b blss) ?_; refine .sq ?_; refine .seq ?_; refine .cond rfl (fun c44 => ?_) (fun c44 => ?_)
    ·exfalso; simp at c44; omega
    ·refine .exit ?_; refine .pass_exit ?_; refine .pass_exit ?_; refine .block_same ?_; refine .z ?_; refine .x (OpSem.loadbN rfl rfl rfl vs30 (by first | decide | simp)) ?_; refine .sb vs30 ?_; refine .sq ?_; refine .ret ?_; exact .ret rfl (.cellN rfl rfl vs30 <| .nil) rfl (.refl _)

theorem linear_Feasible_does (p : LPr) (l : List Int) (hp : LpC p) (hl : l.length = p.obj.length) (hx : ∀ i : Nat, i < l.length → 0 ≤ nth l i ∧ nth l i ≤ 1000000) (hf : ∀ i : Nat, i < p.rws.length → sm p.obj.length (fun j => nth (nth p.rws i) j * nth l j) ≤ nth p.bnd i * 1) : Does Try.prog false 24 [lprS p, .g [.d (ints l), I (1)]] (.t [Bo true, flt (0, 0)]) := by
 refine Does.of_body Try.func24 rfl rfl (by simp) Try.call24 (fun w0 O0 => ?_); refine .lenG (n := 0) (i := 0) rfl rfl (fun len0_0 => ?_); refine .lenG (n := 0) (i := 1) rfl rfl (fun len0_1 => ?_); refine .lenG (n := 0) (i := 2) rfl rfl (fun len0_2 => ?_); refine .lenG (n := 1) (i := 0) rfl rfl (fun len1_0 => ?_); refine .seq ?_; refine .region ?_; refine .semM (OpSem.box 2 rfl rfl rfl rfl) rfl rfl (by decide) ?_; refine .semM (OpSem.box 3 rfl rfl rfl rfl) rfl rfl (by decide) ?_; refine .a ?_; refine .semM (OpSem.alloc 5 rfl zc30 rfl) rfl rfl (by decide) ?_; refine .sq ?_; refine .seq ?_; refine .seq ?_; refine .region ?_; refine .x (OpSem.loadbN rfl rfl rfl vs39 (by first | decide | simp)) ?_; refine .x (OpSem.loadbN rfl rfl rfl vs59 (by first | decide | simp)) ?_; refine .x (OpSem.le (s' := .d (vecsD [(l, 1)])) (.bs es92 ze92) (Le.of_eq rfl)) ?_; refine .x (OpSem.call0 (linear_check_does p l hp hl hx) rfl rfl rfl rfl (.cons (.refl _) <| .cons (.refl _) <| .cons (.nil 2) .nil)) ?_; refine .semM (OpSem.alloc 6 rfl zc30 rfl) rfl rfl (by decide) ?_; refine .sb vs30 ?_; refine .z ?_; refine .x (OpSem.loadbN rfl rfl rfl vs30 (by first | decide | simp)) ?_; refine .x (OpSem.build rfl rfl pl30 zc30 rfl rfl) ?_; refine .x (OpSem.neS2 rfl rfl rfl io30) ?_; refine .sq ?_; refine .cond rfl (fun c13 => ?_) (fun c13 => ?_)
 ·exfalso; simp at c13
 ·refine .skip ?_; refine .z ?_; refine .x (OpSem.loadbN rfl rfl rfl vs39 (by first | decide | simp)) ?_; refine .x (.f fo59_0) ?_; refine .x (.l vs22) ?_; refine .x (.f fo59_1) ?_; refine .x (.l vs3) ?_; refine .x (OpSem.call0 (linear_fits_does p l hp hl hx hf) rfl rfl rfl rfl (Les.refl _)) ?_; refine .x (OpSem.build rfl rfl pl30 zc30 rfl rfl) ?_; refine .a ?_; refine .sb vs30 ?_; refine .sq ?_; refine .ret ?_; exact .ret rfl (.tmp rfl <| .cellN rfl rfl vs30 <| .nil) rfl (.refl _)

end Go.Proofs.Ytlidcpmdgceboaa
end

section
/- Walks, written by gen.py out of hints. -/





set_option linter.unusedVariables false
set_option linter.unusedSimpArgs false
namespace Go.Proofs.Ytlidcpmdgceboaa
open Go.Eng
set_option maxRecDepth 10000
set_option maxHeartbeats 1000000

theorem slices_Compact_int_int_W (l : List Int) (hne : l ≠ []) (hml : (l.length : Int) ≤ 9223372036854775807) : DoesW Try.prog 105 (fun v => [v]) (fun v => v) 1 3 (l.map fun n => [D.v (.int .i64 n)]) ((dd l).map fun n => [D.v (.int .i64 n)]) := by
 have hpos : 0 < l.length := List.length_pos_iff.2 hne
 refine DoesW.of_body (as_ := [.o 0]) Try.func105 rfl rfl (by simp) Try.call105 (fun _ => rfl) (by intro O H w h1 i x s hx hs; rcases i with _ | i <;> simp at hx hs; subst hx; subst hs; exact .o 0 h1) (by simpa using hne) (by simpa using dd_ne hne) (fun O0 Oc W => ?_); refine .seq ?_; refine .region ?_; refine .a ?_; refine .sq ?_; refine .seq ?_; refine .seq ?_; refine .region ?_; refine .m ?_; refine .x (OpSem.leno rfl rfl rfl es22) ?_; refine .x (.b blss) ?_; refine .sq ?_; refine .cond rfl (fun c8 => ?_) (fun c8 => ?_)
 ·have hlt : l.length < 2 := by simp at c8; omega
  refine .seq ?_; refine .region ?_; refine .m ?_; refine .a ?_; refine .sq ?_; refine .ret ?_; refine .pass_ret ?_; exact .retW rfl (.tmp rfl <| .nil) rfl rfl (by simp [plainB]) (by rw [dd_one hlt]) (fun H => rfl)
 ·have hge : 2 ≤ l.length := by simp at c8; omega
  refine .skip ?_; refine .seq ?_; refine .seq ?_; refine .seq ?_; refine .region ?_; refine .a ?_; refine .sq ?_; refine .block ?_; refine .loop (X := Nat) (fun k => 1 ≤ k ∧ k ≤ l.length ∧ ∀ i : Nat, 0 < i → i < k → nth l i ≠ nth l (i - 1 : Int)) (fun k => [(0, .o 0), (3, I (k))]) (fun k => [(0, .own 1 3 (l.map fun n => [D.v (.int .i64 n)])), (1000, .fr (frK Oc W))]) (fun k => l.length - k) 1 ⟨by omega, by omega, fun i h0 h1 => by omega⟩ ?_ ?_
  ·exact .all
  ·rintro k ⟨hk1, hkl, hinv⟩
   refine .seq ?_; refine .seq ?_; refine .region ?_; refine .m ?_; refine .m ?_; refine .x (OpSem.leno rfl rfl rfl es22) ?_; refine .x (.b blss) ?_; refine .sq ?_; refine .cond rfl (fun c13 => ?_) (fun c13 => ?_)
   ·have hk : k < l.length := by simpa using c13
    refine .skip ?_; refine .seq ?_; refine .seq ?_; refine .block ?_; refine .seq ?_; refine PC.start [] ?_; refine .m ?_; refine .m ?_; refine .x (OpSem.idxo rfl rfl rfl rfl es22 (by omega) (by simp; omega)) ?_; refine .x (OpSem.loadq rfl rfl rfl vs3 (rows_get (by omega) (by omega)) rfl) ?_; refine .m ?_; refine .m ?_; refine .x .su ?_; refine .x (OpSem.idxo rfl rfl rfl rfl es22 (by omega) (by simp; omega)) ?_; refine .x (OpSem.loadq rfl rfl rfl vs3 (rows_get (by omega) (by omega)) rfl) ?_; refine .d0 mixed ?_; refine .x (.b beql) ?_; refine .sq ?_; refine .cond rfl (fun c25 => ?_) (fun c25 => ?_)
    ·have hdu : nth l k = nth l (k - 1 : Int) := by simpa using c25
     have hk0 : (ddTo l (k + 1)).length = k := by rw [show ddTo l (k + 1) = ddTo l k from if_pos ⟨by omega, hdu⟩, ddTo_take (by omega) hinv]; simp; omega
     refine .seq ?_; refine .region ?_; refine .m ?_; refine .m ?_; refine .x (OpSem.sliceoL rfl rfl rfl rfl es22 (by omega) (by simp; omega)) ?_; refine .a ?_; refine .sq ?_; refine .seq ?_; refine .seq ?_; refine .region ?_; refine .a ?_; refine .sq ?_; refine .block ?_; refine .loop (X := Nat) (fun j => k + j + 1 ≤ l.length) (fun j => [(0, .o 0), (3, I (((ddTo l (k + j + 1)).length : Int))), (4, .w 0 1 k (l.length - k)), (5, I (((j + 1 : Nat) : Int)))]) (fun j => [(0, .own 1 3 ((dmTo l k j).map fun n => [D.v (.int .i64 n)])), (1000, .fr (frK Oc W))]) (fun j => l.length - (k + j + 1)) 0 (by omega) ?_ ?_
     ·exact .slot rfl (.refl _) <| .slot rfl (Le.i (by rw [Nat.add_zero, hk0])) <| .slot rfl (Le.of_eq (by simp)) <| .slot rfl (Le.of_eq (by simp)) <| .memEq rfl (by simp [dmTo]) <| .mem rfl <| .nil
     ·rintro j hjl
      refine .seq ?_; refine .seq ?_; refine .region ?_; refine .m ?_; refine .m ?_; refine .x (OpSem.lenw rfl rfl es22) ?_; refine .x (.b blss) ?_; refine .sq ?_; refine .cond rfl (fun c32 => ?_) (fun c32 => ?_)
      ·have hj : k + j + 1 < l.length := by simp at c32; omega
       have hdl := dk_len (by omega) hdu (j := j)
       have a1 := dmTo_at (by omega) hdu (i := k + j + 1) (j := j) (by omega)
       have a2 := dmTo_at (by omega) hdu (i := k + j) (j := j) (by omega)
       refine .skip ?_; refine .seq ?_; refine .seq ?_; refine .block ?_; refine .seq ?_; refine PC.start [] ?_; refine .m ?_; refine .m ?_; refine .x (OpSem.idxw rfl rfl rfl es22 (by omega) (by omega)) ?_; refine .x (OpSem.loadq rfl rfl rfl vs3 (ints_dm a1 (by rw [dmTo_len]; omega) (by omega)) rfl) ?_; refine .m ?_; refine .m ?_; refine .x .su ?_; refine .x (OpSem.idxw rfl rfl rfl es22 (by omega) (by omega)) ?_; refine .x (OpSem.loadq rfl rfl rfl vs3 (ints_dm a2 (by rw [dmTo_len]; omega) (by omega)) rfl) ?_; refine .d0 mixed ?_; refine .x (.b bneq) ?_; refine .sq ?_; refine .cond rfl (fun c44 => ?_) (fun c44 => ?_)
       ·have hnq : nth l (k + j + 1 : Nat) ≠ nth l (k + j : Nat) := fun h => by rw [h] at c44; simp at c44
        refine .seq ?_; refine .region ?_; refine .m ?_; refine .m ?_; refine .m ?_; refine .m ?_; refine .x (OpSem.idxw rfl rfl rfl es22 (by omega) (by omega)) ?_; refine .x (OpSem.loadq rfl rfl rfl vs3 (ints_dm a1 (by rw [dmTo_len]; omega) (by omega)) rfl) ?_; refine .x (OpSem.idxo rfl rfl rfl rfl es22 (by omega) (by simp [dmTo_len]; omega)) ?_; refine .storeq rfl rfl rfl rfl rfl rfl rfl vs3 (rows_get (by omega) (by simp [dmTo_len]; omega)) (by simp) ?_; refine .y ?_; refine .m ?_; refine .x .ad ?_; refine .a ?_; refine .nil ?_; refine .block_normal ?_; refine .y ?_; refine .m ?_; refine .x .ad ?_; refine .a ?_; refine .nil ?_; refine .again (j + 1) (by omega) ?_ (by omega); exact .slot rfl (.refl _) <| .slot rfl (Le.i (by rw [ddTo_step (by omega) hdu, if_neg hnq]; simp)) <| .slot rfl (.refl _) <| .slot rfl (Le.i (by omega)) <| .memEq rfl (by rw [dmTo_sI (k := k) (j := j) hnq, List.map_set]; rfl) <| .mem rfl <| .nil
       ·have hq : nth l (k + j + 1 : Nat) = nth l (k + j : Nat) := by simpa using c44
        refine .skip ?_; refine .block_normal ?_; refine .y ?_; refine .m ?_; refine .x .ad ?_; refine .a ?_; refine .nil ?_; refine .again (j + 1) (by omega) ?_ (by omega); exact .slot rfl (.refl _) <| .slot rfl (Le.i (by rw [ddTo_step (by omega) hdu, if_pos hq])) <| .slot rfl (.refl _) <| .slot rfl (Le.i (by omega)) <| .memEq rfl (by rw [dmTo_eI (k := k) (j := j) hq]) <| .mem rfl <| .nil
      ·have hj : k + j + 1 = l.length := by simp at c32; omega
       have hdl := dk_len (by omega) hdu (j := j)
       refine .exit ?_; refine .pass_exit ?_; refine .pass_exit ?_; refine .block_same ?_; refine .z ?_; refine .m ?_; refine .m ?_; refine .x (OpSem.sliceoL rfl rfl rfl rfl es22 (by omega) (by simp [dmTo_len]; omega)) ?_; refine .ofSt0 (OpSt.clearW rfl rfl es22 ze22 rfl rfl (by decide) (by simp [dmTo_len]; omega)) rfl rfl rfl ?_; refine .z ?_; refine .m ?_; refine .m ?_; refine .semM (OpSem.cutO rfl rfl rfl rfl es22 (by omega) (by simp [dmTo_len]; omega) (by simp [dmTo_len]; omega)) rfl rfl (by decide) ?_; refine .a ?_; refine .sq ?_; refine .ret ?_; refine .block_ret ?_; refine .pass_ret ?_; refine .pass_ret ?_; refine .block_ret ?_; refine .pass_ret ?_; exact .retW rfl (.tmp rfl <| .nil) rfl rfl (by rw [cut_ddI (by omega) hdu hk hinv hj]; exact plain_ints _) (cut_ddI (by omega) hdu hk hinv hj) (fun H => rfl)
    ·have hdu : nth l k ≠ nth l (k - 1 : Int) := fun h => by rw [h] at c25; simp at c25
     refine .skip ?_; refine .block_normal ?_; refine .y ?_; refine .m ?_; refine .x .ad ?_; refine .a ?_; refine .nil ?_; refine .again (k + 1) ⟨by omega, by omega, fun i h0 hi => by by_cases h : i = k; (subst h; exact hdu); exact hinv i h0 (by omega)⟩ ?_ (by omega); exact .slot rfl (.refl _) <| .slot rfl (Le.i (by omega)) <| .mem rfl <| .mem rfl <| .nil
   ·have hk : k = l.length := by simp at c13; omega
    refine .exit ?_; refine .pass_exit ?_; refine .pass_exit ?_; refine .block_same ?_; refine .z ?_; refine .m ?_; refine .a ?_; refine .sq ?_; refine .ret ?_; exact .retW rfl (.tmp rfl <| .nil) rfl rfl (by simp [plainB]) (by rw [dd_all (by rw [← hk]; exact hinv)]) (fun H => rfl)


open Go.Shelf Go.RowKit Go.Lib
theorem compact_nilI (p : Option Addr) (cap : Nat) (w : World) : Calls Try.prog 105 #[.slice p 0 cap] w fun e w' => e = .returned (.slice p 0 cap) ∧ w' = w := by
  go_enter Try.func105, Try.ntmps105
  go_wp2
  go_ret
  exact ⟨by simp, rfl⟩
theorem compact_allI (l : List Int) (hml : (l.length : Int) ≤ 9223372036854775807) : DoesW Try.prog 105 (fun v => [v]) (fun v => v) 1 3 (l.map fun n => [D.v (.int .i64 n)]) ((dd l).map fun n => [D.v (.int .i64 n)]) := by
  by_cases hne : l = []
  · subst hne
    refine ⟨Try.call105, fun w v hv => ?_⟩
    have he : ∃ p cap, v = .slice p 0 cap := by
      rcases hv with ⟨rfl, _⟩ | ⟨b, cap, xs, rfl, _⟩
      · exact ⟨_, _, rfl⟩
      · exact ⟨_, _, rfl⟩
    obtain ⟨p, cap, rfl⟩ := he
    refine (compact_nilI p cap w).mono ?_
    rintro e w' ⟨rfl, rfl⟩
    refine ⟨_, rfl, ⟨rfl, rfl, rfl, Nat.le_refl _, fun b hb _ => rfl⟩, ?_, .inr (.inl rfl)⟩
    have e0 : dd ([] : List Int) = [] := by simp [dd, ddTo]
    rw [e0]
    rcases hv with h | ⟨b, cap', xs, h1, h2, h3, h4⟩
    · exact .inl h
    · exact .inr ⟨b, cap', xs, h1, h2, h3, h4⟩
  · exact slices_Compact_int_int_W l hne hml
def Try.sortInts_ren : Go.Shelf.Ren := ⟨fun | 5 => 104 | 8 => 108 | 7 => 107 | 19 => 117 | 20 => 118 | 10 => 109 | 11 => 110 | 12 => 111 | 13 => 112 | 14 => 113 | 15 => 114 | 16 => 102 | 17 => 115 | 18 => 116 | 30 => 119 | 31 => 120 | 32 => 121 | 33 => 122 | 34 => 123 | 35 => 106 | 40 => 124 | n => n, fun | 23 => 22 | 25 => 3 | 3 => 3 | 32 => 124 | 22 => 22 | 0 => 0 | 44 => 142 | 46 => 144 | 4 => 4 | 36 => 136 | 35 => 135 | 41 => 127 | 5 => 5 | 9 => 9 | 53 => 145 | 57 => 149 | 63 => 151 | 64 => 152 | n => n, fun | n => n⟩
theorem Try.sortInts : Go.Proofs.SlLaysM.n5 Try.prog Try.sortInts_ren := {
 mixed := by kernel_rfl
 f5 := ⟨Try.f104.name, by decide, Try.func104.trans (congrArg some (by kernel_rfl))⟩
 f7 := ⟨Try.f107.name, by decide, Try.func107.trans (congrArg some (by kernel_rfl))⟩
 f8 := Try.func108.trans (congrArg some (by kernel_rfl))
 f10 := ⟨Try.f109.name, by decide, Try.func109.trans (congrArg some (by kernel_rfl))⟩
 f11 := ⟨Try.f110.name, by decide, Try.func110.trans (congrArg some (by kernel_rfl))⟩
 f12 := ⟨Try.f111.name, by decide, Try.func111.trans (congrArg some (by kernel_rfl))⟩
 f13 := ⟨Try.f112.name, by decide, Try.func112.trans (congrArg some (by kernel_rfl))⟩
 f14 := ⟨Try.f113.name, by decide, Try.func113.trans (congrArg some (by kernel_rfl))⟩
 f15 := ⟨Try.f114.name, by decide, Try.func114.trans (congrArg some (by kernel_rfl))⟩
 f16 := ⟨Try.f102.name, by decide, Try.func102.trans (congrArg some (by kernel_rfl))⟩
 f17 := ⟨Try.f115.name, by decide, Try.func115.trans (congrArg some (by kernel_rfl))⟩
 f18 := ⟨Try.f116.name, by decide, Try.func116.trans (congrArg some (by kernel_rfl))⟩
 f19 := Try.func117.trans (congrArg some (by kernel_rfl))
 f20 := Try.func118.trans (congrArg some (by kernel_rfl))
 f30 := ⟨Try.f119.name, by decide, Try.func119.trans (congrArg some (by kernel_rfl))⟩
 f31 := Try.func120.trans (congrArg some (by kernel_rfl))
 f32 := Try.func121.trans (congrArg some (by kernel_rfl))
 f33 := ⟨Try.f122.name, by decide, Try.func122.trans (congrArg some (by kernel_rfl))⟩
 f34 := ⟨Try.f123.name, by decide, Try.func123.trans (congrArg some (by kernel_rfl))⟩
 f35 := ⟨Try.f106.name, by decide, Try.func106.trans (congrArg some (by kernel_rfl))⟩
 f40 := ⟨Try.f124.name, by decide, Try.func124.trans (congrArg some (by kernel_rfl))⟩
 t0 := Try.underlying0
 a0 := Try.isAgg0
 z0 := Try.sizeOf0
 v0 := Try.zeroValue0
 t3 := Try.underlying3
 a3 := Try.isAgg3
 z3 := Try.sizeOf3
 v3 := Try.zeroValue3
 t4 := Try.underlying4
 a4 := Try.isAgg4
 z4 := Try.sizeOf4
 v4 := Try.zeroValue4
 t5 := Try.underlying5
 a5 := Try.isAgg5
 z5 := Try.sizeOf5
 v5 := Try.zeroValue5
 t9 := Try.underlying9
 a9 := Try.isAgg9
 z9 := Try.sizeOf9
 v9 := Try.zeroValue9
 t22 := Try.underlying22
 a22 := Try.isAgg22
 z22 := Try.sizeOf22
 v22 := Try.zeroValue22
 t23 := Try.underlying22
 a23 := Try.isAgg22
 z23 := Try.sizeOf22
 v23 := Try.zeroValue22
 t25 := Try.underlying3
 a25 := Try.isAgg3
 z25 := Try.sizeOf3
 v25 := Try.zeroValue3
 t32 := Try.underlying124
 a32 := Try.isAgg124
 z32 := Try.sizeOf124
 v32 := Try.zeroValue124
 t35 := Try.underlying135
 a35 := Try.isAgg135
 z35 := Try.sizeOf135
 v35 := Try.zeroValue135
 t36 := Try.underlying136
 a36 := Try.isAgg136
 z36 := Try.sizeOf136
 v36 := Try.zeroValue136
 t41 := Try.underlying127
 a41 := Try.isAgg127
 z41 := Try.sizeOf127
 v41 := Try.zeroValue127
 t44 := Try.underlying142
 a44 := Try.isAgg142
 z44 := Try.sizeOf142
 v44 := Try.zeroValue142
 t46 := Try.underlying144
 a46 := Try.isAgg144
 z46 := Try.sizeOf144
 v46 := Try.zeroValue144
 t53 := Try.underlying145
 a53 := Try.isAgg145
 z53 := Try.sizeOf145
 v53 := Try.zeroValue145
 t57 := Try.underlying149
 a57 := Try.isAgg149
 z57 := Try.sizeOf149
 v57 := Try.zeroValue149
 t63 := Try.underlying151
 a63 := Try.isAgg151
 z63 := Try.sizeOf151
 v63 := Try.zeroValue151
 t64 := Try.underlying152
 a64 := Try.isAgg152
 z64 := Try.sizeOf152
 v64 := Try.zeroValue152 }
theorem sortI_W (l : List Int) (hl : l.length < 4611686018427387904) : DoesWS Try.prog 104 (fun v => [v]) (.tuple #[]) 1 3 (l.map fun n => [D.v (.int .i64 n)]) ((sortI l).map fun n => [D.v (.int .i64 n)]) :=
  sortInts_W Try.sortInts 3 Try.call104 l hl


end Go.Proofs.Ytlidcpmdgceboaa
end
