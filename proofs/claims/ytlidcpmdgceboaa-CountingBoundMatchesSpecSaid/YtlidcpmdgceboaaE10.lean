/- The engine and the walks that this claim uses, part 10. Written by prune.py out of our own texts. -/
import Derived.Test.YtlidcpmdgceboaaE9
set_option linter.unusedSimpArgs false
set_option linter.unnecessarySimpa false
set_option linter.unusedVariables false
set_option linter.unusedSectionVars false
section
/- Determinants of integer vectors, by expansion along rows. -/

namespace Go.Eng
abbrev Vc := Nat → Int
def alt {α β : Type} (f : α → List α → Int) : List α → Int
  | [] => 0
  | x :: l => f x l - alt (β := β) (fun y l' => f y (x :: l')) l
abbrev al (f : Vc → List Vc → Int) (l : List Vc) : Int := alt (β := Unit) f l
theorem al_nil {f : Vc → List Vc → Int} : al f [] = 0 := rfl
theorem al_cons {f : Vc → List Vc → Int} {x : Vc} {l : List Vc} : al f (x :: l) = f x l - al (fun y l' => f y (x :: l')) l := rfl
theorem al_congr {f g : Vc → List Vc → Int} (h : ∀ x l, f x l = g x l) : ∀ {l : List Vc}, al f l = al g l := by
  have : f = g := funext fun x => funext fun l => h x l
  intro l; rw [this]
theorem al_lin {a b : Int} : ∀ {l : List Vc} {f g : Vc → List Vc → Int}, al (fun x l => a * f x l + b * g x l) l = a * al f l + b * al g l
  | [], f, g => by simp [al_nil]
  | x :: l, f, g => by
    rw [al_cons, al_cons, al_cons, al_lin]
    simp only [Int.mul_sub]; omega
theorem al_zero : ∀ {l : List Vc}, al (fun _ _ => 0) l = 0
  | [] => rfl
  | x :: l => by rw [al_cons, al_zero]; rfl
theorem al_mul {a : Int} {f : Vc → List Vc → Int} {l : List Vc} : al (fun x l => a * f x l) l = a * al f l := by
  have := al_lin (a := a) (b := 0) (l := l) (f := f) (g := f)
  have e : al (fun x l => a * f x l) l = al (fun x l => a * f x l + 0 * f x l) l := al_congr fun x l => by omega
  rw [e, this]; omega

def lc (a b : Int) (x y : Vc) : Vc := fun r => a * x r + b * y r
theorem al_twice : ∀ {l : List Vc} (g : Vc → Vc → List Vc → Int), al (fun x l => al (fun y l' => g x y l') l) l = -(al (fun x l => al (fun y l' => g y x l') l) l)
  | [], g => by simp [al_nil]
  | x :: l, g => by
    rw [al_cons, al_cons]
    have e1 : al (fun y l' => al (fun z l'' => g y z l'') (x :: l')) l = al (fun y l' => g y x l') l - al (fun y l' => al (fun z l'' => g y z (x :: l'')) l') l := by
      have := al_lin (a := 1) (b := -1) (l := l) (f := fun y l' => g y x l') (g := fun y l' => al (fun z l'' => g y z (x :: l'')) l')
      rw [show al (fun y l' => g y x l') l - al (fun y l' => al (fun z l'' => g y z (x :: l'')) l') l = 1 * al (fun y l' => g y x l') l + -1 * al (fun y l' => al (fun z l'' => g y z (x :: l'')) l') l from by omega, ← this]
      exact al_congr fun y l' => by rw [al_cons]; omega
    have e2 : al (fun y l' => al (fun z l'' => g z y l'') (x :: l')) l = al (fun y l' => g x y l') l - al (fun y l' => al (fun z l'' => g z y (x :: l'')) l') l := by
      have := al_lin (a := 1) (b := -1) (l := l) (f := fun y l' => g x y l') (g := fun y l' => al (fun z l'' => g z y (x :: l'')) l')
      rw [show al (fun y l' => g x y l') l - al (fun y l' => al (fun z l'' => g z y (x :: l'')) l') l = 1 * al (fun y l' => g x y l') l + -1 * al (fun y l' => al (fun z l'' => g z y (x :: l'')) l') l from by omega, ← this]
      exact al_congr fun y l' => by rw [al_cons]; omega
    rw [e1, e2]
    have := al_twice (l := l) (fun y z l'' => g y z (x :: l''))
    omega

/-- The determinant of columns at some rows. -/
def Dt : List Nat → List Vc → Int
  | [], _ => 1
  | r :: rs, l => al (fun y l' => y r * Dt rs l') l
theorem Dt_Lin : ∀ (rs : List Nat) (pre post : List Vc) (a b : Int) (x y : Vc), (pre ++ x :: post).length = rs.length → Dt rs (pre ++ lc a b x y :: post) = a * Dt rs (pre ++ x :: post) + b * Dt rs (pre ++ y :: post) := by
  -- linear at every list, once the length is not looked at: the empty row list is the exception
  intro rs
  induction rs with
  | nil => intro pre post a b x y h; simp at h
  | cons r rs ih =>
    intro pre post a b x y hlen
    cases rs with
    | nil =>
      have h1 : pre = [] ∧ post = [] := by
        simp only [List.length_append, List.length_cons, List.length_nil] at hlen
        exact ⟨List.eq_nil_of_length_eq_zero (by omega), List.eq_nil_of_length_eq_zero (by omega)⟩
      obtain ⟨rfl, rfl⟩ := h1
      simp [Dt, al_cons, al_nil, lc]
    | cons r2 rs =>
      -- all places, by the places of the lists that are left
      have key : ∀ (pre : List Vc) (f : Vc → List Vc → Int) (n : Nat) (h1 : ∀ a b x y l, f (lc a b x y) l = a * f x l + b * f y l)
          (h2 : ∀ z pre post a b x y, (pre ++ x :: post).length = n → f z (pre ++ lc a b x y :: post) = a * f z (pre ++ x :: post) + b * f z (pre ++ y :: post)) (post : List Vc) (a b : Int) (x y : Vc), (pre ++ x :: post).length = n + 1 →
          al f (pre ++ lc a b x y :: post) = a * al f (pre ++ x :: post) + b * al f (pre ++ y :: post) := by
        intro pre
        induction pre with
        | nil =>
          intro f n h1 h2 post a b x y hl
          simp only [List.nil_append]
          rw [al_cons, al_cons, al_cons, h1]
          simp only [List.nil_append, List.length_cons] at hl
          -- the rest: each of its lists is one shorter
          have q : ∀ (l : List Vc) (f : Vc → List Vc → Int), (∀ z l', l'.length + 1 = l.length → f z (lc a b x y :: l') = a * f z (x :: l') + b * f z (y :: l')) → al (fun z l' => f z (lc a b x y :: l')) l = a * al (fun z l' => f z (x :: l')) l + b * al (fun z l' => f z (y :: l')) l := by
            intro l
            suffices hs : ∀ (l : List Vc) (u v w : Vc → List Vc → Int), (∀ z l', l'.length + 1 = l.length → u z l' = a * v z l' + b * w z l') → al u l = a * al v l + b * al w l from fun f h => hs l _ _ _ h
            intro l
            induction l with
            | nil => intro u v w _; simp [al_nil]
            | cons p l ih2 =>
              intro u v w h
              rw [al_cons, al_cons, al_cons, h p l (by simp)]
              rw [ih2 (fun z l' => u z (p :: l')) (fun z l' => v z (p :: l')) (fun z l' => w z (p :: l')) (fun z l' hl' => h z (p :: l') (by simp; omega))]
              simp only [Int.mul_sub]; omega
          rw [q post f (fun z l' hl' => h2 z [] l' a b x y (by simp; omega))]
          simp only [Int.mul_sub]; omega
        | cons p pre ih2 =>
          intro f n h1 h2 post a b x y hl
          simp only [List.cons_append] at hl ⊢
          rw [al_cons, al_cons, al_cons]
          simp only [List.length_cons] at hl
          cases n with
          | zero => simp at hl
          | succ n =>
            rw [h2 p pre post a b x y (by omega)]
            rw [ih2 (fun z l' => f z (p :: l')) n (fun a b x y l => h1 a b x y (p :: l)) (fun z pre post a b x y hl2 => h2 z (p :: pre) post a b x y (by simp only [List.cons_append, List.length_cons]; omega)) post a b x y (by omega)]
            simp only [Int.mul_sub]; omega
      exact key pre (fun y l' => y r * Dt (r2 :: rs) l') (rs.length + 1) (fun a b x y l => by simp only [lc, Int.add_mul, Int.mul_assoc]) (fun z pre post a b x y hl => by
        rw [ih pre post a b x y (by simpa using hl)]; simp only [Int.mul_add, Int.mul_left_comm]) post a b x y (by simpa using hlen)
theorem Dt_Asy : ∀ (rs : List Nat) (pre post : List Vc) (x y : Vc), (pre ++ x :: y :: post).length = rs.length → Dt rs (pre ++ x :: y :: post) = -(Dt rs (pre ++ y :: x :: post)) := by
  intro rs
  induction rs with
  | nil => intro pre post x y h; simp at h
  | cons r rs ih =>
    have key : ∀ (pre : List Vc) (f : Vc → List Vc → Int) (n : Nat) (h2 : ∀ z pre post x y, (pre ++ x :: y :: post).length = n → f z (pre ++ x :: y :: post) = -(f z (pre ++ y :: x :: post))) (post : List Vc) (x y : Vc), (pre ++ x :: y :: post).length = n + 1 →
        al f (pre ++ x :: y :: post) = -(al f (pre ++ y :: x :: post)) := by
      intro pre
      induction pre with
      | nil =>
        intro f n h2 post x y hl
        simp only [List.nil_append]
        rw [al_cons, al_cons, al_cons, al_cons]
        have q : ∀ (l : List Vc) (u v : Vc → List Vc → Int), (∀ z l', l'.length + 1 = l.length → u z l' = -(v z l')) → al u l = -(al v l) := by
          intro l
          induction l with
          | nil => intro u v _; simp [al_nil]
          | cons p l ih2 =>
            intro u v h
            rw [al_cons, al_cons, h p l (by simp), ih2 (fun z l' => u z (p :: l')) (fun z l' => v z (p :: l')) (fun z l' hl' => h z (p :: l') (by simp; omega))]
            omega
        rw [q post (fun z l' => f z (x :: y :: l')) (fun z l' => f z (y :: x :: l')) (fun z l' hl' => h2 z [] l' x y (by simp only [List.nil_append, List.length_cons] at hl ⊢; omega))]
        omega
      | cons p pre ih2 =>
        intro f n h2 post x y hl
        simp only [List.cons_append] at hl ⊢
        rw [al_cons, al_cons]
        simp only [List.length_cons] at hl
        cases n with
        | zero => simp at hl
        | succ n =>
          rw [h2 p pre post x y (by omega)]
          rw [ih2 (fun z l' => f z (p :: l')) n (fun z pre post x y hl2 => h2 z (p :: pre) post x y (by simp only [List.cons_append, List.length_cons]; omega)) post x y (by omega)]
          omega
    intro pre post x y hlen
    refine key pre (fun y l' => y r * Dt rs l') rs.length (fun z pre post x y hl => ?_) post x y (by simpa using hlen)
    rw [ih pre post x y hl, Int.mul_neg]
theorem Dt_rows {r1 r2 : Nat} {rs : List Nat} {l : List Vc} : Dt (r1 :: r2 :: rs) l = -(Dt (r2 :: r1 :: rs) l) := by
  have := al_twice (l := l) (fun y z l'' => y r1 * (z r2 * Dt rs l''))
  have e1 : Dt (r1 :: r2 :: rs) l = al (fun x l => al (fun y l' => x r1 * (y r2 * Dt rs l')) l) l := by
    simp only [Dt]; exact al_congr fun x l => by rw [al_mul]
  have e2 : Dt (r2 :: r1 :: rs) l = al (fun x l => al (fun y l' => y r1 * (x r2 * Dt rs l')) l) l := by
    simp only [Dt]; refine al_congr fun x l => ?_
    rw [← al_mul]; exact al_congr fun y l' => by rw [← Int.mul_assoc, ← Int.mul_assoc, Int.mul_comm (x r2)]
  rw [e1, e2, this]
theorem Dt_same {r : Nat} : ∀ {rs : List Nat} {l : List Vc}, r ∈ rs → Dt (r :: rs) l = 0
  | s :: rs, l, h => by
    by_cases hs : s = r
    · subst hs
      have := Dt_rows (r1 := s) (r2 := s) (rs := rs) (l := l); omega
    · have hm : r ∈ rs := by
        rcases List.mem_cons.1 h with e | e
        · exact absurd e.symm hs
        · exact e
      rw [Dt_rows]
      have : Dt (s :: r :: rs) l = 0 := by
        show al (fun y l' => y s * Dt (r :: rs) l') l = 0
        rw [al_congr (g := fun _ _ => 0) (fun x l => by rw [Dt_same hm, Int.mul_zero]), al_zero]
      omega
/-- One column after the other is replaced by v. -/
def repS (h : Vc → Int) (F : List Vc → Int) (v : Vc) : List Vc → List Vc → Int
  | _, [] => 0
  | pre, x :: post => h x * F (pre ++ v :: post) + repS h F v (pre ++ [x]) post
theorem repS_pre {h : Vc → Int} {v : Vc} {x : Vc} : ∀ {post pre : List Vc} {F : List Vc → Int}, repS h (fun l => F (x :: l)) v pre post = repS h F v (x :: pre) post
  | [], _, _ => rfl
  | y :: post, pre, F => by
    simp only [repS, List.cons_append]; rw [repS_pre]
theorem al_rep {h : Vc → Int} {v : Vc} : ∀ {post : List Vc} {F : List Vc → Int}, (∀ pre x y post', (pre ++ x :: y :: post').length = post.length → F (pre ++ x :: y :: post') = -(F (pre ++ y :: x :: post'))) →
    al (fun y l' => h y * F (v :: l')) post = repS h F v [] post
  | [], F, _ => rfl
  | x :: post, F, ha => by
    rw [al_cons]
    simp only [repS, List.nil_append]
    have q : ∀ (l : List Vc) (u w : Vc → List Vc → Int), (∀ z l', l'.length + 1 = l.length → u z l' = -(w z l')) → al u l = -(al w l) := by
      intro l
      induction l with
      | nil => intro u w _; simp [al_nil]
      | cons p l ih2 =>
        intro u w h
        rw [al_cons, al_cons, h p l (by simp), ih2 (fun z l' => u z (p :: l')) (fun z l' => w z (p :: l')) (fun z l' hl' => h z (p :: l') (by simp; omega))]
        omega
    rw [q post (fun y l' => h y * F (v :: x :: l')) (fun y l' => h y * F (x :: v :: l')) (fun z l' hl' => by
      have := ha [] v x l' (by simp only [List.nil_append, List.length_cons]; omega)
      simp only [List.nil_append] at this
      rw [this, Int.mul_neg])]
    have := al_rep (h := h) (v := v) (post := post) (F := fun l => F (x :: l)) (fun pre a b post' hl => ha (x :: pre) a b post' (by simp only [List.cons_append, List.length_cons]; omega))
    rw [this, repS_pre]; omega
/-- Cramer's rule. -/
theorem cramer {rs : List Nat} {B : List Vc} {v : Vc} {q : Nat} (hq : q ∈ rs) (hl : B.length = rs.length) : v q * Dt rs B = repS (fun y => y q) (Dt rs) v [] B := by
  have h0 := Dt_same (l := v :: B) hq
  have h1 : Dt (q :: rs) (v :: B) = v q * Dt rs B - al (fun y l' => y q * Dt rs (v :: l')) B := rfl
  rw [h1, al_rep (F := Dt rs) (fun pre x y post' hl2 => Dt_Asy rs pre post' x y (by omega))] at h0
  omega

/-! ### Columns as a function -/
def up (B : Nat → Vc) (k : Nat) (v : Vc) : Nat → Vc := fun i => if i = k then v else B i
theorem up_at {B : Nat → Vc} {k : Nat} {v : Vc} : up B k v k = v := by simp [up]
theorem up_ne {B : Nat → Vc} {k i : Nat} {v : Vc} (h : i ≠ k) : up B k v i = B i := by simp [up, h]
theorem up_up {B : Nat → Vc} {k : Nat} {v u : Vc} : up (up B k v) k u = up B k u := by funext i; by_cases h : i = k <;> simp [up, h]
theorem up_comm {B : Nat → Vc} {k l : Nat} {v u : Vc} (h : k ≠ l) : up (up B k v) l u = up (up B l u) k v := by
  funext i
  by_cases h1 : i = k
  · subst h1; simp [up, h]
  · by_cases h2 : i = l
    · subst h2; simp [up, h1]
    · simp [up, h1, h2]
theorem up_self {B : Nat → Vc} {k : Nat} : up B k (B k) = B := by funext i; by_cases h : i = k <;> simp [up, h]
def cols (B : Nat → Vc) (a n : Nat) : List Vc := (List.range' a n).map B
theorem cols_len {B : Nat → Vc} {a n : Nat} : (cols B a n).length = n := by simp [cols]
theorem cols_up {B : Nat → Vc} {a n k : Nat} {v : Vc} (h : k < a ∨ a + n ≤ k) : cols (up B k v) a n = cols B a n := by
  unfold cols
  refine List.map_congr_left fun i hi => up_ne fun e => ?_
  subst e
  rw [List.mem_range'_1] at hi; omega
theorem cols_split {B : Nat → Vc} {n k : Nat} (hk : k < n) : cols B 0 n = cols B 0 k ++ B k :: cols B (k + 1) (n - (k + 1)) := by
  unfold cols
  have e : List.range' 0 n = List.range' 0 k ++ List.range' k (n - k) := by
    have := List.range'_append_1 (s := 0) (m := k) (n := n - k)
    rw [Nat.zero_add, show k + (n - k) = n from by omega] at this
    exact this.symm
  have e2 : List.range' k (n - k) = k :: List.range' (k + 1) (n - (k + 1)) := by
    rw [show n - k = (n - (k + 1)) + 1 from by omega, List.range'_succ]
  rw [e, e2]; simp
/-- The determinant of the first M coordinates of M columns. -/
def Dm (M : Nat) (B : Nat → Vc) : Int := Dt (List.range M) (cols B 0 M)
section
variable {M : Nat} {B : Nat → Vc} {k l : Nat} {x y : Vc}
theorem Dm_up (hk : k < M) : Dm M (up B k x) = Dt (List.range M) (cols B 0 k ++ x :: cols B (k + 1) (M - (k + 1))) := by
  unfold Dm
  rw [cols_split hk, up_at, cols_up (by omega), cols_up (by omega)]
theorem Dm_lin (hk : k < M) {a b : Int} : Dm M (up B k (lc a b x y)) = a * Dm M (up B k x) + b * Dm M (up B k y) := by
  rw [Dm_up hk, Dm_up hk, Dm_up hk]
  exact Dt_Lin _ _ _ _ _ _ _ (by simp [cols_len]; omega)
theorem Dt_eq0 {rs : List Nat} {x : Vc} : ∀ (mid pre post : List Vc), (pre ++ x :: mid ++ x :: post).length = rs.length → Dt rs (pre ++ x :: mid ++ x :: post) = 0
  | [], pre, post, h => by
    have e : pre ++ [x] ++ x :: post = pre ++ x :: x :: post := by simp
    rw [e] at h ⊢
    have := Dt_Asy rs pre post x x h; omega
  | y :: mid, pre, post, h => by
    have e : pre ++ x :: (y :: mid) ++ x :: post = pre ++ x :: y :: (mid ++ x :: post) := by simp
    have e2 : pre ++ y :: x :: (mid ++ x :: post) = (pre ++ [y]) ++ x :: mid ++ x :: post := by simp
    rw [e] at h ⊢
    rw [Dt_Asy rs pre _ x y h, e2, Dt_eq0 mid (pre ++ [y]) post (by rw [← e2]; simpa using h)]; rfl
theorem Dm_eq0' (hk : k < l) (hl : l < M) (h : B k = B l) : Dm M B = 0 := by
  unfold Dm
  have e : cols B 0 M = cols B 0 k ++ B k :: (cols B (k + 1) (l - (k + 1))) ++ B k :: cols B (l + 1) (M - (l + 1)) := by
    rw [cols_split hl, cols_split (n := l) hk, ← h]
  rw [e]
  exact Dt_eq0 _ _ _ (by simp [cols_len]; omega)
theorem Dm_eq0 (hk : k < M) (hl : l < M) (hne : k ≠ l) (h : B k = B l) : Dm M B = 0 := by
  rcases Nat.lt_or_ge k l with h1 | h1
  · exact Dm_eq0' h1 hl h
  · exact Dm_eq0' (by omega) hk h.symm
theorem Dm_swap (hk : k < M) (hl : l < M) (hne : k ≠ l) : Dm M (up (up B k x) l y) = -(Dm M (up (up B k y) l x)) := by
  have h0 : Dm M (up (up B k (lc 1 1 x y)) l (lc 1 1 x y)) = 0 := Dm_eq0 hk hl hne (by rw [up_ne hne, up_at, up_at])
  rw [Dm_lin hl, up_comm hne, up_comm hne, Dm_lin hk, Dm_lin hk] at h0
  have hx : Dm M (up (up B l x) k x) = 0 := Dm_eq0 hk hl hne (by rw [up_at, up_ne hne.symm, up_at])
  have hy : Dm M (up (up B l y) k y) = 0 := Dm_eq0 hk hl hne (by rw [up_at, up_ne hne.symm, up_at])
  rw [hx, hy] at h0
  rw [up_comm hne, up_comm (v := y) (u := x) hne]
  omega
/-- A sum over the first n numbers. -/
def sm : Nat → (Nat → Int) → Int
  | 0, _ => 0
  | n + 1, f => sm n f + f n
theorem sm_congr : ∀ {n : Nat} {f g : Nat → Int}, (∀ i, i < n → f i = g i) → sm n f = sm n g
  | 0, _, _, _ => rfl
  | n + 1, f, g, h => by simp only [sm]; rw [sm_congr (fun i hi => h i (by omega)), h n (by omega)]
theorem sm_mul {a : Int} : ∀ {n : Nat} {f : Nat → Int}, sm n (fun i => a * f i) = a * sm n f
  | 0, _ => by simp [sm]
  | n + 1, f => by simp only [sm]; rw [sm_mul, Int.mul_add]
theorem sm_add : ∀ {n : Nat} {f g : Nat → Int}, sm n (fun i => f i + g i) = sm n f + sm n g
  | 0, _, _ => by simp [sm]
  | n + 1, f, g => by simp only [sm]; rw [sm_add]; omega
theorem sm_zero : ∀ {n : Nat} {f : Nat → Int}, (∀ i, i < n → f i = 0) → sm n f = 0
  | 0, _, _ => rfl
  | n + 1, f, h => by simp only [sm]; rw [sm_zero (fun i hi => h i (by omega)), h n (by omega)]; rfl
theorem sm_one {i0 : Nat} : ∀ {n : Nat} {f : Nat → Int}, i0 < n → (∀ i, i < n → i ≠ i0 → f i = 0) → sm n f = f i0
  | 0, _, h, _ => by omega
  | n + 1, f, h, h0 => by
    simp only [sm]
    by_cases hn : i0 = n
    · subst hn; rw [sm_zero (fun i hi => h0 i (by omega) (by omega))]; omega
    · rw [sm_one (by omega) (fun i hi hne => h0 i (by omega) hne), h0 n (by omega) (fun e => hn e.symm)]; omega
theorem sm_split {k : Nat} : ∀ {m : Nat} {f : Nat → Int}, sm (k + m) f = sm k f + sm m (fun i => f (k + i))
  | 0, f => by simp [sm]
  | m + 1, f => by rw [show k + (m + 1) = (k + m) + 1 from rfl]; simp only [sm]; rw [sm_split]; omega
theorem rep_sm {h : Vc → Int} {F : List Vc → Int} {v : Vc} {B : Nat → Vc} {M : Nat} : ∀ {n a : Nat}, a + n = M → repS h F v (cols B 0 a) (cols B a n) = sm n fun i => h (B (a + i)) * F (cols (up B (a + i) v) 0 M)
  | 0, a, _ => rfl
  | n + 1, a, hM => by
    have e : cols B a (n + 1) = B a :: cols B (a + 1) n := by simp [cols, List.range'_succ]
    have e2 : cols B 0 a ++ [B a] = cols B 0 (a + 1) := by
      unfold cols
      rw [List.range'_concat]; simp
    rw [e]
    simp only [repS]
    rw [e2, rep_sm (M := M) (n := n) (a := a + 1) (by omega)]
    have e3 : cols (up B a v) 0 M = cols B 0 a ++ v :: cols B (a + 1) n := by
      rw [cols_split (k := a) (by omega), up_at, cols_up (by omega), cols_up (by omega)]
      rw [show M - (a + 1) = n from by omega]
    have e4 : sm (n + 1) (fun i => h (B (a + i)) * F (cols (up B (a + i) v) 0 M)) = h (B a) * F (cols (up B a v) 0 M) + sm n (fun i => h (B (a + 1 + i)) * F (cols (up B (a + 1 + i) v) 0 M)) := by
      rw [show n + 1 = 1 + n from by omega, sm_split]
      simp only [sm, Nat.add_zero, Int.zero_add]
      congr 1
      exact sm_congr fun i _ => by rw [Nat.add_assoc a 1 i]
    rw [e4, e3]
theorem Dm_cramer {q : Nat} (hq : q < M) {v : Vc} : v q * Dm M B = sm M fun k => B k q * Dm M (up B k v) := by
  have := cramer (rs := List.range M) (B := cols B 0 M) (v := v) (q := q) (by simpa using hq) (by simp [cols_len])
  unfold Dm
  rw [this]
  have h := rep_sm (h := fun y => y q) (F := Dt (List.range M)) (v := v) (B := B) (M := M) (n := M) (a := 0) (by omega)
  simp only [Nat.zero_add] at h
  exact h

/-! Only the first M coordinates are looked at. -/
theorem al_map {t : Vc → Vc} : ∀ {l : List Vc} {f : Vc → List Vc → Int}, al f (l.map t) = al (fun x l' => f (t x) (l'.map t)) l
  | [], _ => rfl
  | x :: l, f => by
    rw [List.map_cons, al_cons, al_cons, al_map]; rfl
def trV (M : Nat) (x : Vc) : Vc := fun q => if q < M then x q else 0
theorem Dt_tr : ∀ {rs : List Nat} {l : List Vc}, (∀ q, q ∈ rs → q < M) → Dt rs (l.map (trV M)) = Dt rs l
  | [], _, _ => rfl
  | r :: rs, l, h => by
    simp only [Dt]
    rw [al_map]
    refine al_congr fun y l' => ?_
    rw [Dt_tr (fun q hq => h q (by simp [hq]))]
    have : trV M y r = y r := by unfold trV; rw [if_pos (h r (by simp))]
    rw [this]
theorem Dm_tr : Dm M (fun k => trV M (B k)) = Dm M B := by
  unfold Dm
  have e : cols (fun k => trV M (B k)) 0 M = (cols B 0 M).map (trV M) := by simp [cols]
  rw [e, Dt_tr (fun q hq => by simpa using hq)]
theorem Dm_ext {C : Nat → Vc} (h : ∀ k, k < M → ∀ q, q < M → B k q = C k q) : Dm M B = Dm M C := by
  rw [← Dm_tr (B := B), ← Dm_tr (B := C)]
  unfold Dm
  have : cols (fun k => trV M (B k)) 0 M = cols (fun k => trV M (C k)) 0 M := by
    unfold cols
    refine List.map_congr_left fun k hk => ?_
    rw [List.mem_range'_1] at hk
    funext q
    unfold trV
    split
    · rename_i hq; exact h k (by omega) q hq
    · rfl
  rw [this]
def sv (n : Nat) (c : Nat → Int) (B : Nat → Vc) : Vc := fun q => sm n fun k => c k * B k q
theorem Dm_sv {i : Nat} {C : Nat → Vc} (hi : i < M) {c : Nat → Int} : ∀ {n : Nat}, Dm M (up C i (sv n c B)) = sm n fun k => c k * Dm M (up C i (B k))
  | 0 => by
    have e : up C i (sv 0 c B) = up C i (lc 0 0 (C i) (C i)) := by congr 1; funext q; simp [sv, sm, lc]
    rw [e, Dm_lin hi]; simp [sm]
  | n + 1 => by
    have e : up C i (sv (n + 1) c B) = up C i (lc 1 (c n) (sv n c B) (B n)) := by congr 1; funext q; simp [sv, sm, lc]
    rw [e, Dm_lin hi, Dm_sv hi]
    simp only [sm]; omega
theorem pluecker {r i : Nat} (hr : r < M) (hi : i < M) (hne : i ≠ r) : Dm M B * Dm M (up (up B r x) i y) = Dm M (up B i y) * Dm M (up B r x) - Dm M (up B i x) * Dm M (up B r y) := by
  have h1 : Dm M (up (up B r x) i (lc (Dm M B) 0 y y)) = Dm M (up (up B r x) i (sv M (fun k => Dm M (up B k y)) B)) := by
    refine Dm_ext fun k hk q hq => ?_
    by_cases h : k = i
    · subst h
      rw [up_at, up_at]
      have := Dm_cramer (M := M) (B := B) hq (v := y)
      simp only [lc, sv]
      rw [sm_congr (g := fun k => B k q * Dm M (up B k y)) (fun k _ => Int.mul_comm _ _), ← this, Int.mul_comm]; omega
    · rw [up_ne h, up_ne h]
  rw [Dm_lin hi, Dm_sv hi] at h1
  have h2 : sm M (fun k => Dm M (up B k y) * Dm M (up (up B r x) i (B k))) = Dm M (up B i y) * Dm M (up B r x) + Dm M (up B r y) * -(Dm M (up B i x)) := by
    have hi0 : up (up B r x) i (B i) = up B r x := by
      have := up_self (B := up B r x) (k := i)
      rwa [up_ne hne] at this
    have hr0 : Dm M (up (up B r x) i (B r)) = -(Dm M (up B i x)) := by
      rw [Dm_swap hr hi (fun e => hne e.symm), up_self]
    have hs : ∀ k, k < M → Dm M (up B k y) * Dm M (up (up B r x) i (B k)) = (if k = i then Dm M (up B i y) * Dm M (up B r x) else 0) + (if k = r then Dm M (up B r y) * -(Dm M (up B i x)) else 0) := fun k hk => by
      by_cases h3 : k = i
      · subst h3; rw [if_pos rfl, if_neg hne, hi0]; omega
      · by_cases h4 : k = r
        · subst h4; rw [if_neg h3, if_pos rfl, hr0]; omega
        · rw [if_neg h3, if_neg h4]
          have : Dm M (up (up B r x) i (B k)) = 0 := Dm_eq0 hk hi h3 (by rw [up_ne h3, up_ne h4, up_at])
          rw [this]; omega
    rw [sm_congr hs, sm_add, sm_one hi (fun k _ hk => if_neg hk), sm_one hr (fun k _ hk => if_neg hk), if_pos rfl, if_pos rfl]
  rw [h2] at h1
  have : Dm M (up B r y) * -(Dm M (up B i x)) = -(Dm M (up B i x) * Dm M (up B r y)) := by rw [Int.mul_neg, Int.mul_comm]
  omega
/-! How large it is. -/
theorem al_le {K : Nat} : ∀ {l : List Vc} {f : Vc → List Vc → Int}, (∀ x l', x ∈ l → (∀ z, z ∈ l' → z ∈ l) → l'.length + 1 = l.length → (f x l').natAbs ≤ K) → (al f l).natAbs ≤ l.length * K
  | [], _, _ => by simp [al_nil]
  | x :: l, f, h => by
    rw [al_cons]
    have h1 := h x l (by simp) (fun z hz => by simp [hz]) (by simp)
    have h2 := al_le (l := l) (f := fun y l' => f y (x :: l')) (fun y l' hy hz hl => h y (x :: l') (by simp [hy]) (fun z hz' => by
      rcases List.mem_cons.1 hz' with e | e
      · simp [e]
      · simp [hz z e]) (by simp; omega))
    simp only [List.length_cons, Nat.succ_mul]
    omega
/-- The product of the rows' bounds and of the numbers of columns that are left. -/
def bdD (b : Nat → Nat) : List Nat → Nat
  | [] => 1
  | r :: rs => (rs.length + 1) * (b r * bdD b rs)
theorem Dt_le {b : Nat → Nat} : ∀ {rs : List Nat} {l : List Vc}, l.length = rs.length → (∀ x, x ∈ l → ∀ q, q ∈ rs → (x q).natAbs ≤ b q) → (Dt rs l).natAbs ≤ bdD b rs
  | [], _, _, _ => by simp [Dt, bdD]
  | r :: rs, l, hl, h => by
    simp only [Dt, bdD]
    have := al_le (K := b r * bdD b rs) (l := l) (f := fun y l' => y r * Dt rs l') (fun x l' hx hz hl' => by
      rw [Int.natAbs_mul]
      exact Nat.mul_le_mul (h x hx r (by simp)) (Dt_le (by simp at hl; omega) (fun z hz' q hq => h z (hz z hz') q (by simp [hq]))))
    simp only [List.length_cons] at hl
    rw [hl] at this
    exact this
theorem Dm_le {b : Nat → Nat} (h : ∀ k, k < M → ∀ q, q < M → (B k q).natAbs ≤ b q) : (Dm M B).natAbs ≤ bdD b (List.range M) := by
  unfold Dm
  refine Dt_le (by simp [cols_len]) fun z hz q hq => ?_
  unfold cols at hz
  obtain ⟨k, hk, rfl⟩ := List.mem_map.1 hz
  rw [List.mem_range'_1] at hk
  exact h k (by omega) q (by simpa using hq)
/-! The unit columns. -/
def un (k : Nat) : Vc := fun q => if q = k then 1 else 0
theorem Dt_un : ∀ {n a : Nat}, Dt (List.range' a n) ((List.range' a n).map un) = 1
  | 0, _ => rfl
  | n + 1, a => by
    rw [List.range'_succ, List.map_cons]
    simp only [Dt]
    rw [al_cons]
    have h0 : al (fun y l' => y a * Dt (List.range' (a + 1) n) (un a :: l')) ((List.range' (a + 1) n).map un) = 0 := by
      have q : ∀ (l : List Vc) (f : Vc → List Vc → Int), (∀ x l', x ∈ l → f x l' = 0) → al f l = 0 := by
        intro l
        induction l with
        | nil => intro f _; rfl
        | cons x l ih => intro f h; rw [al_cons, h x l (by simp), ih _ (fun y l' hy => h y (x :: l') (by simp [hy]))]; rfl
      refine q _ _ fun x l' hx => ?_
      obtain ⟨k, hk, rfl⟩ := List.mem_map.1 hx
      rw [List.mem_range'_1] at hk
      have : un k a = 0 := by unfold un; rw [if_neg (by omega)]
      rw [this, Int.zero_mul]
    rw [h0, Dt_un]
    simp [un]
theorem Dm_un : Dm M un = 1 := by
  have := Dt_un (a := 0) (n := M)
  unfold Dm cols
  rw [List.range_eq_range']; exact this
theorem Dm_un_up {i : Nat} (hi : i < M) {v : Vc} : Dm M (up un i v) = v i := by
  have := Dm_cramer (M := M) (B := un) hi (v := v)
  rw [Dm_un, Int.mul_one] at this
  rw [this, sm_one hi (fun k _ hk => by unfold un; rw [if_neg (fun e => hk e.symm), Int.zero_mul])]
  unfold un; rw [if_pos rfl, Int.one_mul]
end
end Go.Eng
end

section
/- Every tableau of a run, by determinants: divisions are exact, entries are small, solutions stay the same. -/


namespace Go.Eng
/-- A program with coefficients -1, 0, 1, bounds -1, 0, and costs from 0 to 20. -/
structure LpC (p : LPr) : Prop where
  ok : LpOk p
  c : ∀ i : Nat, i < p.rws.length → ∀ j : Nat, j < p.obj.length → -1 ≤ nth (nth p.rws i) j ∧ nth (nth p.rws i) j ≤ 1
  b : ∀ i : Nat, i < p.rws.length → -1 ≤ nth p.bnd i ∧ nth p.bnd i ≤ 0
  o : ∀ j : Nat, j < p.obj.length → -20 ≤ nth p.obj j ∧ nth p.obj j ≤ 0
section
variable {p : LPr}
theorem cel_new {i j : Nat} (hi : i < p.rws.length) (hj : j < ntW p) : cel (newTab p) i j = if j < p.obj.length then nth (nth p.rws i) j else if j = p.obj.length + i then 1 else if j = p.obj.length + p.rws.length then -1 else if j = p.obj.length + p.rws.length + 1 then nth p.bnd i else 0 := by
  unfold cel newTab
  rw [nth_rangeMap (by omega)]
  unfold ntR; rw [if_pos hi]
  unfold ntRow; rw [nth_rangeMap hj]
theorem cel_goal {j : Nat} (hj : j < ntW p) : cel (newTab p) p.rws.length j = if j < p.obj.length then -(nth p.obj j) else 0 := by
  unfold cel newTab
  rw [nth_rangeMap (by omega)]
  unfold ntR; rw [if_neg (by omega), if_pos rfl]
  unfold ntGoal ntGo; rw [nth_rangeMap hj]
theorem cel_art {j : Nat} (hj : j < ntW p) : cel (newTab p) ((p.rws.length + 1 : Nat) : Int) j = if j = p.obj.length + p.rws.length then 1 else 0 := by
  unfold cel newTab
  rw [nth_rangeMap (by omega)]
  unfold ntR; rw [if_neg (by omega), if_neg (by omega)]
  unfold ntArt; rw [nth_rangeMap hj]
/-- A column of the first tableau. -/
def A0 (p : LPr) (j : Int) : Vc := fun i => cel (newTab p) i j
def bc (p : LPr) (bs : List Int) : Nat → Vc := fun k => if k < p.rws.length then A0 p (nth bs k) else un k
structure DI (p : LPr) (t : Tb) : Prop where
  rl : t.rs.length = p.rws.length + 2
  wl : ∀ i : Nat, i < p.rws.length + 2 → (nth t.rs i).length = ntW p
  bl : t.bs.length = p.rws.length
  br : ∀ k : Nat, k < p.rws.length → 0 ≤ nth t.bs k ∧ nth t.bs k < (p.obj.length : Int) + p.rws.length + 1
  dp : 0 < t.dn
  eps : ∃ e : Int, (e = 1 ∨ e = -1) ∧ t.dn = e * Dm (p.rws.length + 2) (bc p t.bs) ∧ ∀ i : Nat, i < p.rws.length + 2 → ∀ j : Nat, j < ntW p → cel t i j = e * Dm (p.rws.length + 2) (up (bc p t.bs) i (A0 p j))
theorem DI.new : DI p (newTab p) := by
  have hbs : ∀ k : Nat, k < p.rws.length → nth (newTab p).bs k = ((p.obj.length + k : Nat) : Int) := fun k hk => by
    unfold newTab ntBs; rw [nth_rangeMap hk]
  have hun : ∀ k : Nat, k < p.rws.length + 2 → ∀ q : Nat, q < p.rws.length + 2 → bc p (newTab p).bs k q = un k q := fun k hk q hq => by
    unfold bc
    by_cases h : k < p.rws.length
    · rw [if_pos h, hbs k h]
      unfold A0 un
      by_cases hq1 : q < p.rws.length
      · rw [cel_new hq1 (by unfold ntW; omega), if_neg (by omega)]
        by_cases hqk : q = k
        · rw [if_pos (by omega), if_pos hqk]
        · rw [if_neg (by omega), if_neg (by omega), if_neg (by omega), if_neg hqk]
      · by_cases hq2 : q = p.rws.length
        · subst hq2; rw [cel_goal (by unfold ntW; omega), if_neg (by omega), if_neg (by omega)]
        · obtain rfl : q = p.rws.length + 1 := by omega
          rw [cel_art (by unfold ntW; omega), if_neg (by omega), if_neg (by omega)]
    · rw [if_neg h]
  refine ⟨newTab_rl, fun i hi => ?_, newTab_bl, fun k hk => ?_, by simp [newTab], 1, .inl rfl, ?_, fun i hi j hj => ?_⟩
  · unfold newTab; rw [nth_rangeMap hi]; exact ntR_len
  · rw [hbs k hk]; omega
  · rw [Dm_ext hun, Dm_un]; rfl
  · have : Dm (p.rws.length + 2) (up (bc p (newTab p).bs) i (A0 p j)) = Dm (p.rws.length + 2) (up un i (A0 p j)) := Dm_ext fun k hk q hq => by
      by_cases h : k = i
      · subst h; rw [up_at, up_at]
      · rw [up_ne h, up_ne h]; exact hun k hk q hq
    rw [this, Dm_un_up hi, Int.one_mul]; rfl
variable {t : Tb} {r : Nat} {c : Nat}
theorem cel_pivA {i j : Nat} (h : DI p t) (hi : i < p.rws.length + 2) (hj : j < ntW p) : cel (pivA t r c) i j = if i = r then cel t i j else (cel t i j * cel t r c - cel t i c * cel t r j).tdiv t.dn := by
  have e : cel (pivA t r c) i j = nth (nth (pvTo t r c t.rs.length).rs i) j := rfl
  have hi' : i < t.rs.length := by rw [h.rl]; exact hi
  rw [e, pv_at hi']
  by_cases hir : i = r
  · rw [if_neg (fun q => q.2 (by omega)), if_pos hir]; rfl
  · rw [if_pos ⟨hi', by omega⟩, if_neg hir]
    unfold pvN
    rw [nth_rangeMap (by rw [h.wl i hi]; exact hj)]; rfl
theorem cel_ng {s : Tb} {i j : Nat} {w : Nat} (hi : i < s.rs.length) (hw : (nth s.rs i).length = w) (hj : j < w) : cel (ngTo s s.rs.length) i j = -(cel s i j) := by
  unfold cel
  rw [ng_at hi, if_pos hi]
  unfold ngN
  rw [nth_eq (l := (nth s.rs i).map fun x => -x) (by simp; omega), List.getElem_map]
  congr 1; exact (nth_eq (by omega)).symm
/-- What a pivot does, up to a sign. -/
structure PivE (p : LPr) (t t' : Tb) (r c : Nat) (s : Int) : Prop where
  s1 : s = 1 ∨ s = -1
  dn : t'.dn = s * cel t r c
  bs : t'.bs = t.bs.set r c
  row : ∀ j : Nat, j < ntW p → cel t' r j = s * cel t r j
  oth : ∀ i : Nat, i < p.rws.length + 2 → i ≠ r → ∀ j : Nat, j < ntW p → cel t' i j * t.dn = s * (cel t i j * cel t r c - cel t i c * cel t r j)
theorem DI.piv (h : DI p t) (hr : r < p.rws.length) (hc : c < p.obj.length + p.rws.length + 1) (hp : cel t r c ≠ 0) : DI p (pivF t r c) ∧ ∃ s, PivE p t (pivF t r c) r c s := by
  obtain ⟨e, he1, he2, he3⟩ := h.eps
  have hcw : c < ntW p := by unfold ntW; omega
  have hee : e * e = 1 := by rcases he1 with rfl | rfl <;> rfl
  have hbr : bc p (t.bs.set r c) = up (bc p t.bs) r (A0 p c) := by
    funext k
    unfold bc
    by_cases hk : k = r
    · subst hk; rw [if_pos hr, up_at, nth_set (by omega) (by rw [h.bl]; omega), if_pos (by omega)]
    · rw [up_ne hk]
      by_cases hkm : k < p.rws.length
      · rw [if_pos hkm, if_pos hkm, nth_set (by omega) (by rw [h.bl]; omega), if_neg (by omega)]
      · rw [if_neg hkm, if_neg hkm]
  -- the quotient
  have hex : ∀ i : Nat, i < p.rws.length + 2 → i ≠ r → ∀ j : Nat, j < ntW p → cel t i j * cel t r c - cel t i c * cel t r j = t.dn * (e * Dm (p.rws.length + 2) (up (up (bc p t.bs) r (A0 p c)) i (A0 p j))) := fun i hi hir j hj => by
    rw [he3 i hi j hj, he3 r (by omega) c hcw, he3 i hi c hcw, he3 r (by omega) j hj, he2]
    have hpl := pluecker (M := p.rws.length + 2) (B := bc p t.bs) (x := A0 p c) (y := A0 p j) (r := r) (i := i) (by omega) hi hir
    have q : ∀ a b : Int, e * a * (e * b) = a * b := fun a b => by
      rw [Int.mul_assoc, Int.mul_left_comm a e b, ← Int.mul_assoc, hee, Int.one_mul]
    rw [q, q, q, hpl]
  have hq : ∀ i : Nat, i < p.rws.length + 2 → i ≠ r → ∀ j : Nat, j < ntW p → (cel t i j * cel t r c - cel t i c * cel t r j).tdiv t.dn = e * Dm (p.rws.length + 2) (up (up (bc p t.bs) r (A0 p c)) i (A0 p j)) := fun i hi hir j hj => by
    rw [hex i hi hir j hj, Int.mul_tdiv_cancel_left _ (by have := h.dp; omega)]
  have hbs : ∀ k : Nat, k < p.rws.length → 0 ≤ nth (t.bs.set r c) k ∧ nth (t.bs.set r c) k < (p.obj.length : Int) + p.rws.length + 1 := fun k hk => by
    rw [nth_set (by omega) (by rw [h.bl]; omega)]
    split
    · omega
    · exact h.br k hk
  have hA : ∀ i : Nat, i < p.rws.length + 2 → ∀ j : Nat, j < ntW p → cel (pivA t r c) i j = e * Dm (p.rws.length + 2) (up (bc p (t.bs.set r c)) i (A0 p j)) := fun i hi j hj => by
    rw [cel_pivA h hi hj, hbr]
    by_cases hir : i = r
    · subst hir; rw [if_pos rfl, up_up]; exact he3 i hi j hj
    · rw [if_neg hir, hq i hi hir j hj]
  have hdA : cel t r c = e * Dm (p.rws.length + 2) (bc p (t.bs.set r c)) := by rw [hbr]; exact he3 r (by omega) c hcw
  have hwA : ∀ i : Nat, i < p.rws.length + 2 → (nth (pivA t r c).rs i).length = ntW p := fun i hi => (pvTo_w (by rw [h.rl]; exact hi)).trans (h.wl i hi)
  have hrA : (pivA t r c).rs.length = p.rws.length + 2 := pv_len.trans h.rl
  by_cases hn : cel t r c < 0
  · rw [pivF_1 hn]
    have hN : ∀ i : Nat, i < p.rws.length + 2 → ∀ j : Nat, j < ntW p → cel (ngTo (pivN t r c) t.rs.length) i j = -(cel (pivA t r c) i j) := fun i hi j hj => by
      have h1 : (pivN t r c).rs.length = t.rs.length := pivN_rl
      rw [← h1]
      exact cel_ng (s := pivN t r c) (w := ntW p) (by rw [h1, h.rl]; exact hi) (hwA i hi) hj
    refine ⟨⟨by rw [ng_len]; exact hrA, fun i hi => (ngTo_w (by rw [pivN_rl, h.rl]; exact hi)).trans (hwA i hi), by simp [ngTo, pivN, h.bl], hbs, by show 0 < -(cel t r c); omega, -e, by omega, ?_, fun i hi j hj => ?_⟩, -1, .inr rfl, ?_, rfl, fun j hj => ?_, fun i hi hir j hj => ?_⟩
    · show -(cel t r c) = -e * _
      rw [Int.neg_mul, hdA]; rfl
    · rw [hN i hi j hj, hA i hi j hj, Int.neg_mul]; rfl
    · show -(cel t r c) = -1 * _
      omega
    · rw [hN r (by omega) j hj, cel_pivA h (by omega) hj, if_pos rfl]; omega
    · rw [hN i hi j hj, cel_pivA h hi hj, if_neg hir, hex i hi hir j hj, Int.mul_tdiv_cancel_left _ (by have := h.dp; omega), Int.neg_mul, Int.mul_comm t.dn]; omega
  · rw [pivF_0 hn]
    refine ⟨⟨hrA, hwA, by simp [pivA, h.bl], hbs, by show 0 < cel t r c; omega, e, he1, hdA, hA⟩, 1, .inl rfl, ?_, rfl, fun j hj => ?_, fun i hi hir j hj => ?_⟩
    · show cel t r c = 1 * _
      omega
    · rw [cel_pivA h (by omega) hj, if_pos rfl]; omega
    · rw [cel_pivA h hi hj, if_neg hir, hex i hi hir j hj, Int.mul_tdiv_cancel_left _ (by have := h.dp; omega), Int.mul_comm t.dn]; omega
/-- The columns of the basis. -/
theorem DI.unit (h : DI p t) {i k : Nat} (hi : i < p.rws.length + 2) (hk : k < p.rws.length) : cel t i (nth t.bs k) = if i = k then t.dn else 0 := by
  obtain ⟨e, he1, he2, he3⟩ := h.eps
  obtain ⟨h0, h1⟩ := h.br k hk
  obtain ⟨j, hj⟩ := Int.eq_ofNat_of_zero_le h0
  have hb : bc p t.bs k = A0 p j := by unfold bc; rw [if_pos hk, hj]
  rw [hj, he3 i hi j (by unfold ntW; omega), ← hb]
  by_cases hik : i = k
  · subst hik; rw [if_pos rfl, up_self, he2]
  · rw [if_neg hik, Dm_eq0 hi (by omega) hik (by rw [up_at, up_ne (fun e => hik e.symm)]), Int.mul_zero]
theorem DI.inj (h : DI p t) {k l : Nat} (hk : k < p.rws.length) (hl : l < p.rws.length) (he : nth t.bs k = nth t.bs l) : k = l := by
  have h1 := h.unit (i := k) (by omega) hk
  have h2 := h.unit (i := k) (by omega) hl
  rw [he, h2] at h1
  by_cases hkl : k = l
  · exact hkl
  · rw [if_neg hkl, if_pos rfl] at h1
    have := h.dp; omega
/-- The basis tells all. -/
theorem DI.eq {t' : Tb} (h : DI p t) (h' : DI p t') (hb : t.bs = t'.bs) : t = t' := by
  obtain ⟨e, he1, he2, he3⟩ := h.eps
  obtain ⟨e', he1', he2', he3'⟩ := h'.eps
  have hee : e = e' := by
    have d1 := h.dp
    have d2 := h'.dp
    rw [he2, hb] at d1
    rw [he2'] at d2
    rcases he1 with rfl | rfl <;> rcases he1' with rfl | rfl <;> first | rfl | (exfalso; omega)
  subst hee
  have hr : t.rs = t'.rs := by
    refine ext_get (h.rl.trans h'.rl.symm) fun i hi => ?_
    rw [h.rl] at hi
    refine ext_get ((h.wl i hi).trans (h'.wl i hi).symm) fun j hj => ?_
    rw [h.wl i hi] at hj
    have a1 := he3 i hi j hj
    have a2 := he3' i hi j hj
    unfold cel at a1 a2
    rw [a1, a2, hb]
  have hd : t.dn = t'.dn := by rw [he2, he2', hb]
  cases t; cases t'
  simp only at hr hb hd
  rw [hr, hb, hd]
/-! ### How large the entries are -/
def bdQ (m : Nat) (q : Nat) : Nat := if q = m then 20 else 1
theorem bdQ_le {m : Nat} (hm : m ≤ 6) : bdD (bdQ m) (List.range (m + 2)) ≤ 1000000000 := by
  have : m = 0 ∨ m = 1 ∨ m = 2 ∨ m = 3 ∨ m = 4 ∨ m = 5 ∨ m = 6 := by omega
  rcases this with rfl | rfl | rfl | rfl | rfl | rfl | rfl <;> decide
theorem A0_le (hp : LpC p) {j : Nat} (hj : j < ntW p) {q : Nat} (hq : q < p.rws.length + 2) : (A0 p j q).natAbs ≤ bdQ p.rws.length q := by
  unfold A0
  by_cases h1 : q < p.rws.length
  · have hb : bdQ p.rws.length q = 1 := by unfold bdQ; rw [if_neg (by omega)]
    rw [hb, cel_new h1 hj]
    split
    · have := hp.c q h1 j (by omega); omega
    · split
      · omega
      · split
        · omega
        · split
          · have := hp.b q h1; omega
          · omega
  · by_cases h2 : q = p.rws.length
    · subst h2
      have hb : bdQ p.rws.length p.rws.length = 20 := by unfold bdQ; rw [if_pos rfl]
      rw [hb, cel_goal hj]
      split
      · have := hp.o j (by omega); omega
      · omega
    · obtain rfl : q = p.rws.length + 1 := by omega
      have hb : bdQ p.rws.length (p.rws.length + 1) = 1 := by unfold bdQ; rw [if_neg (by omega)]
      rw [hb, cel_art hj]
      split <;> omega
theorem DI.small (hp : LpC p) (h : DI p t) : Bnd t := by
  obtain ⟨e, he1, he2, he3⟩ := h.eps
  have hb6 := bdQ_le hp.ok.r6
  have hcol : ∀ k : Nat, k < p.rws.length + 2 → ∀ q : Nat, q < p.rws.length + 2 → (bc p t.bs k q).natAbs ≤ bdQ p.rws.length q := fun k hk q hq => by
    unfold bc
    by_cases hkm : k < p.rws.length
    · rw [if_pos hkm]
      obtain ⟨h0, h1⟩ := h.br k hkm
      obtain ⟨j, hj⟩ := Int.eq_ofNat_of_zero_le h0
      rw [hj]
      exact A0_le hp (by unfold ntW; omega) hq
    · rw [if_neg hkm]; unfold un bdQ; split <;> split <;> omega
  have hin : ∀ x : Int, x.natAbs ≤ bdD (bdQ p.rws.length) (List.range (p.rws.length + 2)) → inB (e * x) := fun x hx => by
    unfold inB; rcases he1 with rfl | rfl <;> omega
  refine ⟨fun row hrow x hx => ?_, ?_, by have := h.dp; omega⟩
  · obtain ⟨i, hi, rfl⟩ := List.getElem_of_mem hrow
    have hi' : i < p.rws.length + 2 := by rw [← h.rl]; exact hi
    obtain ⟨j, hj, rfl⟩ := List.getElem_of_mem hx
    have hw := h.wl i hi'
    rw [nth_eq hi] at hw
    have hj' : j < ntW p := by rw [← hw]; exact hj
    have hc := he3 i hi' j hj'
    have e1 : cel t i j = t.rs[i][j] := by unfold cel; rw [nth_eq hi, nth_eq hj]
    rw [← e1, hc]
    refine hin _ (Dm_le fun k hk q hq => ?_)
    by_cases hk2 : k = i
    · subst hk2; rw [up_at]; exact A0_le hp hj' hq
    · rw [up_ne hk2]; exact hcol k hk q hq
  · rw [he2]; exact hin _ (Dm_le hcol)
/-! ### Solutions -/
theorem rng1 {s a b p q z : Int} : s * (a * p - b * q) * z = s * (p * (a * z)) + -(s * b) * (q * z) := by
  rw [Int.mul_sub, Int.sub_mul, Int.neg_mul, Int.sub_eq_add_neg]
  congr 1
  · ac_rfl
  · congr 1; ac_rfl
def Hom (p : LPr) (t : Tb) (z : Nat → Int) (E : Nat → Int) : Prop := ∀ i : Nat, i < p.rws.length + 2 → t.dn * E i + sm (ntW p) (fun j => cel t i j * z j) = 0
theorem Hom.piv {t' : Tb} {s : Int} (h : DI p t) (hr : r < p.rws.length) (hp : cel t r c ≠ 0) (he : PivE p t t' r c s) {z E : Nat → Int} (hE : E r = 0) : Hom p t z E ↔ Hom p t' z E := by
  have hs : s * s = 1 := by rcases he.s1 with rfl | rfl <;> rfl
  have hs0 : s ≠ 0 := by rcases he.s1 with rfl | rfl <;> decide
  have hd0 : t.dn ≠ 0 := by have := h.dp; omega
  have hrow : sm (ntW p) (fun j => cel t' r j * z j) = s * sm (ntW p) (fun j => cel t r j * z j) := by
    rw [← sm_mul]; exact sm_congr fun j hj => by rw [he.row j hj, Int.mul_assoc]
  have hoth : ∀ i : Nat, i < p.rws.length + 2 → i ≠ r → t.dn * sm (ntW p) (fun j => cel t' i j * z j) = s * (cel t r c * sm (ntW p) (fun j => cel t i j * z j) - cel t i c * sm (ntW p) (fun j => cel t r j * z j)) := fun i hi hir => by
    have e1 : t.dn * sm (ntW p) (fun j => cel t' i j * z j) = sm (ntW p) (fun j => s * (cel t r c * (cel t i j * z j)) + -(s * cel t i c) * (cel t r j * z j)) := by
      rw [← sm_mul]
      refine sm_congr fun j hj => ?_
      have := he.oth i hi hir j hj
      have e2 : t.dn * (cel t' i j * z j) = cel t' i j * t.dn * z j := by rw [← Int.mul_assoc, Int.mul_comm t.dn]
      rw [e2, this]
      exact rng1
    rw [e1, sm_add, sm_mul, sm_mul, sm_mul, Int.mul_sub, Int.neg_mul, Int.mul_assoc s (cel t i c)]; omega
  constructor
  · intro hh i hi
    by_cases hir : i = r
    · subst hir
      have h1 := hh i hi
      rw [hE, Int.mul_zero, Int.zero_add] at h1
      rw [hE, Int.mul_zero, Int.zero_add, hrow, h1, Int.mul_zero]
    · have h1 := hh i hi
      have h2 := hh r (by omega)
      rw [hE, Int.mul_zero, Int.zero_add] at h2
      have h3 := hoth i hi hir
      rw [h2, Int.mul_zero, Int.sub_zero] at h3
      have h4 : t.dn * (t'.dn * E i + sm (ntW p) (fun j => cel t' i j * z j)) = s * cel t r c * (t.dn * E i + sm (ntW p) (fun j => cel t i j * z j)) := by
        rw [Int.mul_add, h3, he.dn, Int.mul_add, Int.mul_assoc s (cel t r c) (sm _ _), Int.mul_left_comm t.dn (s * cel t r c) (E i)]
      rw [h1, Int.mul_zero] at h4
      exact (Int.mul_eq_zero.1 h4).resolve_left hd0
  · intro hh i hi
    have h2 := hh r (by omega)
    rw [hE, Int.mul_zero, Int.zero_add, hrow] at h2
    have h2 := (Int.mul_eq_zero.1 h2).resolve_left hs0
    by_cases hir : i = r
    · subst hir; rw [hE, Int.mul_zero, Int.zero_add, h2]
    · have h1 := hh i hi
      have h3 := hoth i hi hir
      rw [h2, Int.mul_zero, Int.sub_zero] at h3
      have h4 : t.dn * (t'.dn * E i + sm (ntW p) (fun j => cel t' i j * z j)) = s * cel t r c * (t.dn * E i + sm (ntW p) (fun j => cel t i j * z j)) := by
        rw [Int.mul_add, h3, he.dn, Int.mul_add, Int.mul_assoc s (cel t r c) (sm _ _), Int.mul_left_comm t.dn (s * cel t r c) (E i)]
      rw [h1, Int.mul_zero] at h4
      refine (Int.mul_eq_zero.1 h4.symm).resolve_left fun h5 => ?_
      rcases Int.mul_eq_zero.1 h5 with h6 | h6
      · exact hs0 h6
      · exact hp h6
end
end Go.Eng
end

section
/- Bland's rule ends. -/

namespace Go.Eng
/-! ### Ratios -/
theorem le_of_mul {a b c : Int} (hc : 0 < c) (h : a * c ≤ b * c) : a ≤ b := Int.le_of_mul_le_mul_right h hc
theorem rat_le {x a y b z c : Int} (ha : 0 < a) (hb : 0 < b) (hc : 0 < c) (h1 : x * b ≤ y * a) (h2 : y * c ≤ z * b) : x * c ≤ z * a := by
  refine le_of_mul hb ?_
  have e1 : x * c * b = x * b * c := by ac_rfl
  have e2 : z * a * b = z * b * a := by ac_rfl
  have g1 : x * b * c ≤ y * a * c := Int.mul_le_mul_of_nonneg_right h1 (by omega)
  have g2 : y * c * a ≤ z * b * a := Int.mul_le_mul_of_nonneg_right h2 (by omega)
  have e3 : y * a * c = y * c * a := by ac_rfl
  omega
/-- x/a comes before z/c, ties by u and v. -/
def Bef (x a u z c v : Int) : Prop := x * c ≤ z * a ∧ (x * c = z * a → u ≤ v)
theorem Bef.trans {x a u y b v z c q : Int} (ha : 0 < a) (hb : 0 < b) (hc : 0 < c) (h1 : Bef x a u y b v) (h2 : Bef y b v z c q) : Bef x a u z c q := by
  refine ⟨rat_le ha hb hc h1.1 h2.1, fun he => ?_⟩
  have h3 : y * a ≤ x * b := rat_le hb hc ha h2.1 (by rw [he]; exact Int.le_refl _)
  have h4 : z * b ≤ y * c := rat_le hc ha hb (by rw [he]; exact Int.le_refl _) h1.1
  have := h1.2 (by have := h1.1; omega)
  have := h2.2 (by have := h2.1; omega)
  omega
section
variable {t : Tb} {c : Int} {w : Nat}
def BefR (t : Tb) (c : Int) (w : Nat) (b i : Int) : Prop := Bef (cel t b (w - 1)) (cel t b c) (nth t.bs b) (cel t i (w - 1)) (cel t i c) (nth t.bs i)
theorem lv_spec : ∀ {k : Nat}, (lvTo t c w k < 0 → ∀ i : Nat, i < k → cel t i c ≤ 0) ∧ (0 ≤ lvTo t c w k → 0 < cel t (lvTo t c w k) c ∧ ∀ i : Nat, i < k → 0 < cel t i c → BefR t c w (lvTo t c w k) i)
  | 0 => ⟨fun _ i hi => by omega, fun h => by simp [lvTo] at h⟩
  | k + 1 => by
    obtain ⟨h1, h2⟩ := lv_spec (k := k)
    by_cases hp : cel t k c ≤ 0
    · rw [lv_1 hp]
      refine ⟨fun h i hi => ?_, fun h => ⟨(h2 h).1, fun i hi hc => ?_⟩⟩
      · by_cases hik : i = k
        · subst hik; exact hp
        · exact h1 h i (by omega)
      · by_cases hik : i = k
        · subst hik; omega
        · exact (h2 h).2 i (by omega) hc
    · by_cases hb : lvTo t c w k < 0
      · rw [lv_2 hp hb]
        refine ⟨fun h => by omega, fun h => ⟨by omega, fun i hi hc => ?_⟩⟩
        by_cases hik : i = k
        · subst hik; exact ⟨Int.le_refl _, fun _ => Int.le_refl _⟩
        · have := h1 hb i (by omega); omega
      · obtain ⟨g1, g2⟩ := h2 (by omega)
        by_cases hl : lvC t c w (lvTo t c w k) k
        · rw [lv_3 hp hb hl]
          have hkb : BefR t c w k (lvTo t c w k) := by
            unfold lvC at hl
            refine ⟨?_, fun he => ?_⟩
            · rcases hl with hl | hl <;> omega
            · rcases hl with hl | hl
              · omega
              · have := hl.2; omega
          refine ⟨fun h => by omega, fun h => ⟨by omega, fun i hi hc => ?_⟩⟩
          by_cases hik : i = k
          · subst hik; exact ⟨Int.le_refl _, fun _ => Int.le_refl _⟩
          · exact hkb.trans (by omega) g1 hc (g2 i (by omega) hc)
        · rw [lv_4 hp hb hl]
          refine ⟨fun h => by omega, fun h => ⟨g1, fun i hi hc => ?_⟩⟩
          by_cases hik : i = k
          · subst hik
            unfold lvC at hl
            refine ⟨?_, fun he => ?_⟩
            · exact Int.not_lt.1 fun h => hl (.inl h)
            · exact Int.not_lt.1 fun h => hl (.inr ⟨he.symm, h⟩)
          · exact g2 i (by omega) hc
end
/-! ### Sums -/
theorem sm_swap {n m : Nat} {f : Nat → Nat → Int} : sm n (fun j => sm m fun i => f j i) = sm m fun i => sm n fun j => f j i := by
  induction n with
  | zero => simp only [sm]; exact (sm_zero fun _ _ => rfl).symm
  | succ n ih => simp only [sm]; rw [ih, sm_add]
theorem sm_pos : ∀ {n : Nat} {f : Nat → Int}, 0 < sm n f → ∃ i, i < n ∧ 0 < f i
  | 0, _, h => by simp [sm] at h
  | n + 1, f, h => by
    simp only [sm] at h
    by_cases h1 : 0 < f n
    · exact ⟨n, by omega, h1⟩
    · obtain ⟨i, hi, h2⟩ := sm_pos (n := n) (f := f) (by omega)
      exact ⟨i, by omega, h2⟩
theorem sm_nonneg : ∀ {n : Nat} {f : Nat → Int}, (∀ i, i < n → 0 ≤ f i) → 0 ≤ sm n f
  | 0, _, _ => by simp [sm]
  | n + 1, f, h => by
    simp only [sm]
    have := sm_nonneg (n := n) (f := f) fun i hi => h i (by omega)
    have := h n (by omega)
    omega
theorem sm_neg {n : Nat} {f : Nat → Int} : sm n (fun i => -(f i)) = -(sm n f) := by
  have := sm_mul (a := -1) (n := n) (f := f)
  rw [← Int.neg_one_mul, ← this]; exact sm_congr fun i _ => by omega
/-! ### A state of maximize -/
structure MS (p : LPr) (t : Tb) : Prop where
  di : DI p t
  pf : ∀ i : Nat, i < p.rws.length → 0 ≤ cel t i ((ntW p : Int) - 1)
section
variable {p : LPr} {t : Tb} {ob n : Nat}
/-- The next tableau, by Bland's rule. -/
def stp (p : LPr) (ob n : Nat) (t : Tb) : Tb := match entF t ob n with
  | none => t
  | some c => pivF t (lvF t c (ntW p)) c
def Mov (p : LPr) (ob n : Nat) (t : Tb) (c r : Nat) : Prop := Ent t ob n c ∧ lvF t c (ntW p) = (r : Int)
theorem entF_ent {c : Nat} {o : Int} (h : Ent t o n c) : entF t o n = some c := by
  cases he : entF t o n with
  | none => have := entF_none he c h.lt; have := h.hit; omega
  | some d => rw [(entF_some he).uniq h]
theorem Mov.eqn {c r : Nat} (h : Mov p ob n t c r) : stp p ob n t = pivF t r c := by
  unfold Eng.stp; rw [entF_ent h.1]; simp only []; rw [h.2]
/-- All about one step. -/
structure Stp (p : LPr) (ob n : Nat) (t t' : Tb) (c r : Nat) : Prop where
  hr : r < p.rws.length
  hc : c < n
  ms : MS p t'
  pe : PivE p t t' r c 1
  pp : 0 < cel t r c
  neg : cel t ob c < 0
  le : ∀ j : Nat, j < c → 0 ≤ cel t ob j
  bef : ∀ i : Nat, i < p.rws.length → 0 < cel t i c → BefR t c (ntW p) r i
theorem Mov.go {c r : Nat} (hm : MS p t) (hn : n ≤ p.obj.length + p.rws.length + 1) (h : Mov p ob n t c r) : Stp p ob n t (stp p ob n t) c r := by
  have hsp := lv_spec (t := t) (c := (c : Int)) (w := ntW p) (k := t.bs.length)
  have hlv : lvTo t c (ntW p) t.bs.length = (r : Int) := h.2
  have hin := lv_in (t := t) (c := (c : Int)) (w := ntW p) (k := t.bs.length)
  rw [hlv] at hsp hin
  rw [hm.di.bl] at hsp hin
  obtain ⟨hpp, hbef⟩ := hsp.2 (by omega)
  have hr : r < p.rws.length := by omega
  have hcn := h.1.lt
  have hcw : c < ntW p := by unfold ntW; omega
  obtain ⟨hdi, s, hpe⟩ := hm.di.piv hr (c := c) (by omega) (by omega)
  rw [h.eqn]
  have hs : s = 1 := by
    rcases hpe.s1 with h1 | h1
    · exact h1
    · have := hdi.dp; rw [hpe.dn, h1] at this; omega
  subst hs
  refine ⟨hr, hcn, ⟨hdi, fun i hi => ?_⟩, hpe, hpp, h.1.hit, h.1.all, hbef⟩
  have hL : ((ntW p : Int) - 1) = ((ntW p - 1 : Nat) : Int) := by unfold ntW; omega
  have hdp := hm.di.dp
  have hpr := hm.pf r hr
  have hpi := hm.pf i hi
  rw [hL] at hpr hpi ⊢
  by_cases hir : i = r
  · subst hir; rw [hpe.row _ (by unfold ntW; omega)]; omega
  · have he := hpe.oth i (by omega) hir (ntW p - 1) (by unfold ntW; omega)
    have hnn : 0 ≤ cel t i ((ntW p - 1 : Nat) : Int) * cel t r c - cel t i c * cel t r ((ntW p - 1 : Nat) : Int) := by
      by_cases hic : 0 < cel t i c
      · have hb := (hbef i hi hic).1
        rw [hL] at hb
        rw [Int.mul_comm (cel t i c)]; omega
      · have g1 : 0 ≤ cel t i ((ntW p - 1 : Nat) : Int) * cel t r c := Int.mul_nonneg hpi (by omega)
        have g2 : cel t i c * cel t r ((ntW p - 1 : Nat) : Int) ≤ 0 := Int.mul_nonpos_of_nonpos_of_nonneg (by omega) hpr
        omega
    rw [Int.one_mul] at he
    refine Int.not_lt.1 fun hlt => ?_
    have : cel (pivF t r c) i ((ntW p - 1 : Nat) : Int) * t.dn < 0 := Int.mul_neg_of_neg_of_pos hlt hdp
    omega
/-! ### Pigeonholes -/
theorem pigeon : ∀ {K : Nat} {f : Nat → Nat}, (∀ k, f k < K) → ∃ i j, i < j ∧ f i = f j
  | 0, f, h => by have := h 0; omega
  | K + 1, f, h => by
    by_cases h1 : ∃ i, f i = K
    · obtain ⟨i0, hi0⟩ := h1
      by_cases h2 : ∃ j, i0 < j ∧ f j = K
      · obtain ⟨j, hj, hfj⟩ := h2; exact ⟨i0, j, hj, hi0.trans hfj.symm⟩
      · obtain ⟨i, j, hij, he⟩ := pigeon (K := K) (f := fun k => f (k + (i0 + 1))) fun k => by
          have q1 := h (k + (i0 + 1))
          have q2 : f (k + (i0 + 1)) ≠ K := fun e => h2 ⟨_, by omega, e⟩
          show f (k + (i0 + 1)) < K
          omega
        exact ⟨_, _, by omega, he⟩
    · exact pigeon (K := K) fun k => by
        have q1 := h k
        have q2 : f k ≠ K := fun e => h1 ⟨k, e⟩
        omega
theorem maxEx : ∀ {N : Nat} {f : Nat → Nat}, (∀ k, f k < N) → ∃ a, ∀ k, f k ≤ f a
  | 0, f, h => by have := h 0; omega
  | N + 1, f, h => by
    by_cases h1 : ∃ a, f a = N
    · obtain ⟨a, ha⟩ := h1; exact ⟨a, fun k => by have := h k; omega⟩
    · exact maxEx (N := N) fun k => by
        have q1 := h k
        have q2 : f k ≠ N := fun e => h1 ⟨k, e⟩
        omega
theorem flips {Q : Nat → Prop} {a : Nat} : ∀ {d : Nat}, Q a → ¬ Q (a + d) → ∃ b, a ≤ b ∧ b < a + d ∧ Q b ∧ ¬ Q (b + 1)
  | 0, h, h' => absurd h h'
  | d + 1, h, h' => by
    by_cases hd : Q (a + d)
    · exact ⟨a + d, by omega, by omega, hd, h'⟩
    · obtain ⟨b, h1, h2, h3, h4⟩ := flips h hd
      exact ⟨b, h1, by omega, h3, h4⟩
def codeL : List Int → Nat
  | [] => 0
  | x :: l => x.toNat + 16 * codeL l
theorem codeL_inj : ∀ {l l' : List Int}, l.length = l'.length → (∀ x, x ∈ l → 0 ≤ x ∧ x < 16) → (∀ x, x ∈ l' → 0 ≤ x ∧ x < 16) → codeL l = codeL l' → l = l'
  | [], [], _, _, _, _ => rfl
  | [], _ :: _, h, _, _, _ => by simp at h
  | _ :: _, [], h, _, _, _ => by simp at h
  | x :: l, y :: l', h, hx, hy, he => by
    simp only [codeL] at he
    have h1 := hx x (by simp)
    have h2 := hy y (by simp)
    have h3 : x = y := by omega
    subst h3
    have hl : l.length = l'.length := by simpa using h
    have := codeL_inj (l := l) (l' := l') hl (fun z hz => hx z (by simp [hz])) (fun z hz => hy z (by simp [hz])) (by omega)
    rw [this]
theorem codeL_lt : ∀ {l : List Int}, (∀ x, x ∈ l → 0 ≤ x ∧ x < 16) → codeL l < 16 ^ l.length
  | [], _ => by simp [codeL]
  | x :: l, h => by
    have h1 := h x (by simp)
    have h2 := codeL_lt (l := l) fun z hz => h z (by simp [hz])
    simp only [codeL, List.length_cons, Nat.pow_succ]; omega
def Bas (p : LPr) (t : Tb) (x : Int) : Prop := ∃ i : Nat, i < p.rws.length ∧ nth t.bs i = x
/-- No run goes on for ever. -/
theorem bland (hp : LpC p) (hob : p.rws.length ≤ ob) (hob2 : ob < p.rws.length + 2) (hn : n ≤ p.obj.length + p.rws.length + 1) (s : Nat → Tb) (cs rs : Nat → Nat) (hms : ∀ k, MS p (s k)) (hst : ∀ k, Stp p ob n (s k) (s (k + 1)) (cs k) (rs k)) (hdet : ∀ k l, s k = s l → s (k + 1) = s (l + 1)) : False := by
  have hL : ((ntW p : Int) - 1) = ((ntW p - 1 : Nat) : Int) := by unfold ntW; omega
  have hr6 := hp.ok.r6
  have ho6 := hp.ok.o6
  have hin : ∀ k x, x ∈ (s k).bs → 0 ≤ x ∧ x < 16 := fun k x hx => by
    obtain ⟨i, hi, rfl⟩ := List.getElem_of_mem hx
    have hi' : i < p.rws.length := by rw [← (hms k).di.bl]; exact hi
    have := (hms k).di.br i hi'
    rw [nth_eq hi] at this; omega
  obtain ⟨i0, j0, hij, hcode⟩ := pigeon (K := 16 ^ p.rws.length) (f := fun k => codeL (s k).bs) fun k => by
    have := codeL_lt (hin k); rw [(hms k).di.bl] at this; exact this
  have hbs : (s i0).bs = (s j0).bs := codeL_inj ((hms i0).di.bl.trans (hms j0).di.bl.symm) (hin i0) (hin j0) hcode
  have heq : s i0 = s j0 := (hms i0).di.eq (hms j0).di hbs
  -- from i0 on it is periodic
  obtain ⟨P, hP⟩ : ∃ P, P = j0 - i0 := ⟨_, rfl⟩
  have hper : ∀ k, s (i0 + k + P) = s (i0 + k) := fun k => by
    induction k with
    | zero => rw [Nat.add_zero, hP, show i0 + (j0 - i0) = j0 from by omega]; exact heq.symm
    | succ k ih =>
      have := hdet _ _ ih
      rw [show i0 + (k + 1) + P = i0 + k + P + 1 from by omega, show i0 + (k + 1) = i0 + k + 1 from by omega]; exact this
  -- objective: nothing is gained
  have hmono : ∀ k d, cel (s k) ob ((ntW p - 1 : Nat) : Int) * (s (k + d)).dn ≤ cel (s (k + d)) ob ((ntW p - 1 : Nat) : Int) * (s k).dn := fun k d => by
    induction d with
    | zero => exact Int.le_refl _
    | succ d ih =>
      refine rat_le (hms k).di.dp (hms (k + d)).di.dp (hms (k + (d + 1))).di.dp ih ?_
      have h := hst (k + d)
      have ho := h.pe.oth ob hob2 (by have := h.hr; omega) (ntW p - 1) (by unfold ntW; omega)
      have hpf := (hms (k + d)).pf (rs (k + d)) h.hr
      rw [hL] at hpf
      show cel (s (k + d)) ob _ * (s (k + d + 1)).dn ≤ cel (s (k + d + 1)) ob _ * (s (k + d)).dn
      rw [ho, h.pe.dn, Int.one_mul, Int.one_mul]
      have := Int.mul_nonpos_of_nonpos_of_nonneg (Int.le_of_lt h.neg) hpf
      omega
  have hdeg : ∀ k, cel (s (i0 + k)) (rs (i0 + k)) ((ntW p - 1 : Nat) : Int) = 0 := fun k => by
    have h := hst (i0 + k)
    have ho := h.pe.oth ob hob2 (by have := h.hr; omega) (ntW p - 1) (by unfold ntW; omega)
    have hpf := (hms (i0 + k)).pf (rs (i0 + k)) h.hr
    rw [hL] at hpf
    have hm := hmono (i0 + k + 1) (P - 1)
    have e : i0 + k + 1 + (P - 1) = i0 + k + P := by omega
    rw [e, hper k] at hm
    rw [ho, h.pe.dn, Int.one_mul, Int.one_mul] at hm
    refine Int.le_antisymm (Int.not_lt.1 fun hlt => ?_) hpf
    have := Int.mul_neg_of_neg_of_pos h.neg hlt
    omega
  -- the greatest variable that enters
  obtain ⟨a, ha⟩ := maxEx (N := n) (f := fun k => cs (i0 + k)) fun k => (hst (i0 + k)).hc
  have hnb : ∀ k, ¬ Bas p (s k) (cs k) := fun k ⟨i, hi, he⟩ => by
    have h1 := (hms k).di.unit (i := ob) hob2 hi
    rw [he, if_neg (by omega)] at h1
    have := (hst k).neg; omega
  have hent : ∀ k x, ¬ Bas p (s k) x → Bas p (s (k + 1)) x → x = (cs k : Int) := fun k x hx ⟨i, hi, he⟩ => by
    rw [(hst k).pe.bs, nth_set (by omega) (by rw [(hms k).di.bl]; omega)] at he
    split at he
    · exact he.symm
    · exact absurd ⟨i, hi, he⟩ hx
  have hba : Bas p (s (i0 + a + 1)) (cs (i0 + a)) := ⟨rs (i0 + a), (hst (i0 + a)).hr, by
    rw [(hst (i0 + a)).pe.bs, nth_set (by omega) (by rw [(hms (i0 + a)).di.bl]; have := (hst (i0 + a)).hr; omega), if_pos (by omega)]⟩
  have hnP : ¬ Bas p (s (i0 + a + 1 + (P - 1))) (cs (i0 + a)) := by
    rw [show i0 + a + 1 + (P - 1) = i0 + a + P from by omega, hper a]; exact hnb (i0 + a)
  obtain ⟨b, hb1, hb2, hb3, hb4⟩ := flips (Q := fun k => Bas p (s k) (cs (i0 + a))) hba hnP
  -- at b it leaves
  obtain ⟨ib, hib, hbb⟩ := hb3
  have hrb : ib = rs b := by
    refine Classical.byContradiction fun hne => hb4 ⟨ib, hib, ?_⟩
    rw [(hst b).pe.bs, nth_set (by omega) (by rw [(hms b).di.bl]; omega), if_neg (by omega)]; exact hbb
  subst hrb
  obtain ⟨kb, hkb⟩ : ∃ kb, b = i0 + kb := ⟨b - i0, by omega⟩
  have hsb := hst b
  have hsa := hst (i0 + a)
  have hcb : cs b < cs (i0 + a) := by
    have h1 : cs (i0 + kb) ≤ cs (i0 + a) := ha kb
    rw [← hkb] at h1
    rcases Nat.lt_or_ge (cs b) (cs (i0 + a)) with h | h
    · exact h
    · have : cs b = cs (i0 + a) := by omega
      exact absurd ⟨rs b, hib, by rw [hbb, this]⟩ (hnb b)
  -- a direction
  obtain ⟨z, hz⟩ : ∃ z : Nat → Int, z = fun j => (if j = cs b then (s b).dn else 0) + sm p.rws.length fun i => if nth (s b).bs i = (j : Int) then -(cel (s b) i (cs b)) else 0 := ⟨_, rfl⟩
  have hcbw : cs b < ntW p := by have := hsb.hc; unfold ntW; omega
  have hdot : ∀ g : Nat → Int, sm (ntW p) (fun j => g j * z j) = g (cs b) * (s b).dn + sm p.rws.length fun i => -(g (nth (s b).bs i).toNat * cel (s b) i (cs b)) := fun g => by
    have e1 : ∀ j, j < ntW p → g j * z j = (if j = cs b then g (cs b) * (s b).dn else 0) + sm p.rws.length fun i => if nth (s b).bs i = (j : Int) then -(g j * cel (s b) i (cs b)) else 0 := fun j hj => by
      rw [hz]
      simp only []
      rw [Int.mul_add, ← sm_mul]
      congr 1
      · split
        · rename_i h; rw [h]
        · exact Int.mul_zero _
      · refine sm_congr fun i _ => ?_
        split
        · rw [Int.mul_neg]
        · exact Int.mul_zero _
    rw [sm_congr e1, sm_add, sm_swap, sm_one hcbw (fun j _ hj => if_neg hj), if_pos rfl]
    congr 1
    refine sm_congr fun i hi => ?_
    have hbr := (hms b).di.br i hi
    rw [sm_one (i0 := (nth (s b).bs i).toNat) (by unfold ntW; omega) (fun j _ hj => if_neg (fun e => hj (by omega))), if_pos (by omega)]
  obtain ⟨E, hE⟩ : ∃ E : Nat → Int, E = fun i => if i < p.rws.length then 0 else -(cel (s b) i (cs b)) := ⟨_, rfl⟩
  have hEl : ∀ i, i < p.rws.length → E i = 0 := fun i hi => by rw [hE]; exact if_pos hi
  have hEg : ∀ i, p.rws.length ≤ i → E i = -(cel (s b) i (cs b)) := fun i hi => by rw [hE]; exact if_neg (by omega)
  have hhb : Hom p (s b) z E := fun i hi => by
    rw [hdot (fun j => cel (s b) i j)]
    by_cases him : i < p.rws.length
    · rw [hEl i him, Int.mul_zero, Int.zero_add]
      rw [sm_one him (fun k hk hki => by
        have hbr := (hms b).di.br k hk
        rw [Int.toNat_of_nonneg hbr.1, (hms b).di.unit hi hk, if_neg (fun e => hki e.symm), Int.zero_mul]; rfl)]
      have hbr := (hms b).di.br i him
      rw [Int.toNat_of_nonneg hbr.1, (hms b).di.unit hi him, if_pos rfl, Int.mul_comm (cel (s b) i (cs b))]; omega
    · rw [hEg i (by omega), sm_zero (fun k hk => by
        have hbr := (hms b).di.br k hk
        rw [Int.toNat_of_nonneg hbr.1, (hms b).di.unit hi hk, if_neg (by omega), Int.zero_mul]; rfl), Int.mul_neg, Int.mul_comm (cel (s b) i (cs b))]; omega
  have hhom : ∀ d, Hom p (s (i0 + a)) z E ↔ Hom p (s (i0 + a + d)) z E := fun d => by
    induction d with
    | zero => exact Iff.rfl
    | succ d ih =>
      have h := hst (i0 + a + d)
      exact ih.trans (Hom.piv (hms (i0 + a + d)).di h.hr (by have := h.pp; omega) h.pe (hEl _ h.hr))
  have hha : Hom p (s (i0 + a)) z E := (hhom (b - (i0 + a))).2 (by rw [show i0 + a + (b - (i0 + a)) = b from by omega]; exact hhb)
  have h1 := hha ob hob2
  rw [hEg ob hob, hdot (fun j => cel (s (i0 + a)) ob j)] at h1
  rw [sm_neg] at h1
  have hsum : 0 < sm p.rws.length fun i => cel (s (i0 + a)) ob ((nth (s b).bs i).toNat : Nat) * cel (s b) i (cs b) := by
    have g1 : 0 < (s (i0 + a)).dn * -(cel (s b) ob (cs b)) := Int.mul_pos (hms (i0 + a)).di.dp (by have := hsb.neg; omega)
    have g2 : 0 ≤ cel (s (i0 + a)) ob (cs b) * (s b).dn := Int.mul_nonneg (hsa.le (cs b) hcb) (Int.le_of_lt (hms b).di.dp)
    omega
  obtain ⟨i, hi, hpos⟩ := sm_pos hsum
  have hbri := (hms b).di.br i hi
  rw [Int.toNat_of_nonneg hbri.1] at hpos
  -- the variable u of that row
  have hune : cel (s (i0 + a)) ob (nth (s b).bs i) ≠ 0 := fun e => by rw [e, Int.zero_mul] at hpos; omega
  have hunb : ¬ Bas p (s (i0 + a)) (nth (s b).bs i) := fun ⟨k, hk, he⟩ => by
    have := (hms (i0 + a)).di.unit (i := ob) hob2 hk
    rw [he, if_neg (by omega)] at this; exact hune this
  have hule : nth (s b).bs i ≤ (cs (i0 + a) : Int) := by
    obtain ⟨k, hk1, hk2, hk3, hk4⟩ := flips (Q := fun k => ¬ Bas p (s k) (nth (s b).bs i)) (a := i0 + a) (d := b - (i0 + a)) hunb (fun h => h (by rw [show i0 + a + (b - (i0 + a)) = b from by omega]; exact ⟨i, hi, rfl⟩))
    have := hent k _ hk3 (Classical.not_not.1 hk4)
    rw [this]
    have h2 : cs (i0 + (k - i0)) ≤ cs (i0 + a) := ha (k - i0)
    rw [show i0 + (k - i0) = k from by omega] at h2
    omega
  by_cases hut : nth (s b).bs i = (cs (i0 + a) : Int)
  · have : i = rs b := (hms b).di.inj hi hib (hut.trans hbb.symm)
    subst this
    rw [hut] at hpos
    have := Int.mul_neg_of_neg_of_pos hsa.neg hsb.pp
    omega
  · -- its value is 0
    obtain ⟨u, hu⟩ := Int.eq_ofNat_of_zero_le hbri.1
    have hua : 0 ≤ cel (s (i0 + a)) ob (nth (s b).bs i) := by rw [hu]; exact hsa.le u (by omega)
    have hib0 : 0 < cel (s b) i (cs b) := by
      refine Int.not_le.1 fun hle => ?_
      have := Int.mul_nonpos_of_nonneg_of_nonpos hua hle
      omega
    have hval : ∀ d, ∀ k : Nat, k < p.rws.length → nth (s (i0 + a + d)).bs k = nth (s b).bs i → cel (s (i0 + a + d)) k ((ntW p - 1 : Nat) : Int) = 0 := fun d => by
      induction d with
      | zero => intro k hk he; exact absurd ⟨k, hk, he⟩ hunb
      | succ d ih =>
        intro k hk he
        have h := hst (i0 + a + d)
        have hd0 := hdeg (a + d)
        rw [show i0 + (a + d) = i0 + a + d from by omega] at hd0
        show cel (s (i0 + a + d + 1)) k _ = 0
        have he' : nth (s (i0 + a + d + 1)).bs k = nth (s b).bs i := he
        by_cases hkr : k = rs (i0 + a + d)
        · subst hkr; rw [h.pe.row _ (by unfold ntW; omega), hd0, Int.mul_zero]
        · rw [h.pe.bs, nth_set (by omega) (by rw [(hms (i0 + a + d)).di.bl]; omega), if_neg (by omega)] at he'
          have ho := h.pe.oth k (by omega) hkr (ntW p - 1) (by unfold ntW; omega)
          rw [ih k hk he', hd0, Int.zero_mul, Int.mul_zero, Int.sub_zero, Int.mul_zero] at ho
          exact (Int.mul_eq_zero.1 ho).resolve_right (by have := (hms (i0 + a + d)).di.dp; omega)
    have hv := hval (b - (i0 + a)) i hi (by rw [show i0 + a + (b - (i0 + a)) = b from by omega])
    rw [show i0 + a + (b - (i0 + a)) = b from by omega] at hv
    have hd0 := hdeg kb
    rw [← hkb] at hd0
    have hbef := hsb.bef i hi hib0
    unfold BefR Bef at hbef
    rw [hL, hv, hd0] at hbef
    have := hbef.2 (by rw [Int.zero_mul, Int.zero_mul])
    rw [hbb] at this
    omega
end
end Go.Eng
end

section
/- What the simplex method finds. -/

namespace Go.Eng
section
variable {p : LPr} {t : Tb} {ob n : Nat}
theorem ntW_eq (p : LPr) : ntW p = p.obj.length + p.rws.length + 1 + 1 := rfl
/-! ### The rows of the first tableau -/
theorem hom_row {z E : Nat → Int} (h : Hom p (newTab p) z E) {i : Nat} (hi : i < p.rws.length) (hE : E i = 0) :
    sm p.obj.length (fun j => nth (nth p.rws i) j * z j) + z (p.obj.length + i) - z (p.obj.length + p.rws.length) + nth p.bnd i * z (p.obj.length + p.rws.length + 1) = 0 := by
  have h1 := h i (by omega)
  rw [hE, Int.mul_zero, Int.zero_add, ntW_eq] at h1
  simp only [sm] at h1
  rw [sm_split] at h1
  rw [sm_congr (n := p.obj.length) (g := fun j => nth (nth p.rws i) j * z j) (fun j hj => by rw [cel_new hi (by unfold ntW; omega), if_pos hj])] at h1
  rw [sm_one (i0 := i) hi (fun k hk hki => by rw [cel_new hi (by unfold ntW; omega), if_neg (by omega), if_neg (by omega), if_neg (by omega), if_neg (by omega), Int.zero_mul])] at h1
  rw [cel_new hi (by unfold ntW; omega), if_neg (by omega), if_pos rfl, cel_new hi (by unfold ntW; omega), if_neg (by omega), if_neg (by omega), if_pos rfl, cel_new hi (by unfold ntW; omega), if_neg (by omega), if_neg (by omega), if_neg (by omega), if_pos rfl] at h1
  omega
theorem hom_goal {z E : Nat → Int} (h : Hom p (newTab p) z E) : E p.rws.length = sm p.obj.length fun j => nth p.obj j * z j := by
  have h1 := h p.rws.length (by omega)
  have hd : (newTab p).dn = 1 := rfl
  rw [hd, Int.one_mul, ntW_eq, show p.obj.length + p.rws.length + 1 + 1 = p.obj.length + (p.rws.length + 2) from by omega, sm_split] at h1
  rw [sm_congr (n := p.obj.length) (g := fun j => -(nth p.obj j * z j)) (fun j hj => by rw [cel_goal (by unfold ntW; omega), if_pos hj, Int.neg_mul]), sm_neg] at h1
  rw [sm_zero (n := p.rws.length + 2) (fun k hk => by rw [cel_goal (by unfold ntW; omega), if_neg (by omega), Int.zero_mul])] at h1
  omega
theorem hom_art {z E : Nat → Int} (h : Hom p (newTab p) z E) : E (p.rws.length + 1) = -(z (p.obj.length + p.rws.length)) := by
  have h1 := h (p.rws.length + 1) (by omega)
  have hd : (newTab p).dn = 1 := rfl
  rw [hd, Int.one_mul] at h1
  rw [sm_one (i0 := p.obj.length + p.rws.length) (by unfold ntW; omega) (fun k hk hki => by rw [cel_art hk, if_neg hki, Int.zero_mul]), cel_art (by unfold ntW; omega), if_pos rfl] at h1
  omega
/-- A solution out of values for the variables. -/
theorem hom_of {z E : Nat → Int} (hE : ∀ i, i < p.rws.length → E i = 0) (h1 : ∀ i : Nat, i < p.rws.length → sm p.obj.length (fun j => nth (nth p.rws i) j * z j) + z (p.obj.length + i) - z (p.obj.length + p.rws.length) + nth p.bnd i * z (p.obj.length + p.rws.length + 1) = 0)
    (h2 : E p.rws.length = sm p.obj.length fun j => nth p.obj j * z j) (h3 : E (p.rws.length + 1) = -(z (p.obj.length + p.rws.length))) : Hom p (newTab p) z E := by
  intro i hi
  have hd : (newTab p).dn = 1 := rfl
  rw [hd, Int.one_mul]
  by_cases hi1 : i < p.rws.length
  · have := h1 i hi1
    rw [hE i hi1, ntW_eq]
    simp only [sm]
    rw [sm_split]
    rw [sm_congr (n := p.obj.length) (g := fun j => nth (nth p.rws i) j * z j) (fun j hj => by rw [cel_new hi1 (by unfold ntW; omega), if_pos hj])]
    rw [sm_one (i0 := i) hi1 (fun k hk hki => by rw [cel_new hi1 (by unfold ntW; omega), if_neg (by omega), if_neg (by omega), if_neg (by omega), if_neg (by omega), Int.zero_mul])]
    rw [cel_new hi1 (by unfold ntW; omega), if_neg (by omega), if_pos rfl, cel_new hi1 (by unfold ntW; omega), if_neg (by omega), if_neg (by omega), if_pos rfl, cel_new hi1 (by unfold ntW; omega), if_neg (by omega), if_neg (by omega), if_neg (by omega), if_pos rfl]
    omega
  · by_cases hi2 : i = p.rws.length
    · subst hi2
      rw [h2, ntW_eq, show p.obj.length + p.rws.length + 1 + 1 = p.obj.length + (p.rws.length + 2) from by omega, sm_split]
      rw [sm_congr (n := p.obj.length) (g := fun j => -(nth p.obj j * z j)) (f := fun j => cel (newTab p) p.rws.length j * z j) (fun j hj => by rw [cel_goal (by unfold ntW; omega), if_pos hj, Int.neg_mul]), sm_neg]
      rw [sm_zero (n := p.rws.length + 2) (fun k hk => by rw [cel_goal (by unfold ntW; omega), if_neg (by omega), Int.zero_mul])]
      omega
    · obtain rfl : i = p.rws.length + 1 := by omega
      rw [sm_one (i0 := p.obj.length + p.rws.length) (by unfold ntW; omega) (fun k hk hki => by rw [cel_art hk, if_neg hki, Int.zero_mul]), cel_art (by unfold ntW; omega), if_pos rfl, h3]
      omega
/-! ### The direction of a column -/
def dirZ (p : LPr) (t : Tb) (c : Nat) : Nat → Int := fun j => (if j = c then t.dn else 0) + sm p.rws.length fun i => if nth t.bs i = (j : Int) then -(cel t i c) else 0
def dirE (p : LPr) (t : Tb) (c : Nat) : Nat → Int := fun i => if i < p.rws.length then 0 else -(cel t i c)
theorem dir_hom (h : DI p t) {c : Nat} (hc : c < ntW p) : Hom p t (dirZ p t c) (dirE p t c) := by
  have hdot : ∀ g : Nat → Int, sm (ntW p) (fun j => g j * dirZ p t c j) = g c * t.dn + sm p.rws.length fun i => -(g (nth t.bs i).toNat * cel t i c) := fun g => by
    have e1 : ∀ j, j < ntW p → g j * dirZ p t c j = (if j = c then g c * t.dn else 0) + sm p.rws.length fun i => if nth t.bs i = (j : Int) then -(g j * cel t i c) else 0 := fun j hj => by
      unfold dirZ
      rw [Int.mul_add, ← sm_mul]
      congr 1
      · split
        · rename_i h; rw [h]
        · exact Int.mul_zero _
      · refine sm_congr fun i _ => ?_
        split
        · rw [Int.mul_neg]
        · exact Int.mul_zero _
    rw [sm_congr e1, sm_add, sm_swap, sm_one hc (fun j _ hj => if_neg hj), if_pos rfl]
    congr 1
    refine sm_congr fun i hi => ?_
    have hbr := h.br i hi
    rw [sm_one (i0 := (nth t.bs i).toNat) (by unfold ntW; omega) (fun j _ hj => if_neg (fun e => hj (by omega))), if_pos (by omega)]
  intro i hi
  rw [hdot (fun j => cel t i j)]
  unfold dirE
  by_cases him : i < p.rws.length
  · rw [if_pos him, Int.mul_zero, Int.zero_add]
    rw [sm_one him (fun k hk hki => by
      have hbr := h.br k hk
      rw [Int.toNat_of_nonneg hbr.1, h.unit hi hk, if_neg (fun e => hki e.symm), Int.zero_mul]; rfl)]
    have hbr := h.br i him
    rw [Int.toNat_of_nonneg hbr.1, h.unit hi him, if_pos rfl, Int.mul_comm (cel t i c)]; omega
  · rw [if_neg him, sm_zero (fun k hk => by
      have hbr := h.br k hk
      rw [Int.toNat_of_nonneg hbr.1, h.unit hi hk, if_neg (by omega), Int.zero_mul]; rfl), Int.mul_neg, Int.mul_comm (cel t i c)]; omega
theorem dir_nn (h : DI p t) {c : Nat} (hle : ∀ i : Nat, i < p.rws.length → cel t i c ≤ 0) {j : Nat} : 0 ≤ dirZ p t c j := by
  unfold dirZ
  have h1 := sm_nonneg (n := p.rws.length) (f := fun i => if nth t.bs i = (j : Int) then -(cel t i c) else 0) fun i hi => by
    split
    · have := hle i hi; omega
    · omega
  have := h.dp
  split <;> omega
/-! ### maximize ends -/
def itr (f : Tb → Tb) : Nat → Tb → Tb
  | 0, t => t
  | k + 1, t => itr f k (f t)
theorem itr_s {f : Tb → Tb} : ∀ {k : Nat} {t : Tb}, itr f (k + 1) t = f (itr f k t)
  | 0, _ => rfl
  | k + 1, t => by
    show itr f (k + 1) (f t) = f (itr f k (f t))
    exact itr_s
def MEnd (p : LPr) (ob n : Nat) (t' : Tb) (x : Int) : Prop := (x = -1 ∧ ∀ j : Nat, j < n → 0 ≤ cel t' ob j) ∨ ∃ c : Nat, c < n ∧ cel t' ob c < 0 ∧ x = (c : Int) ∧ ∀ i : Nat, i < p.rws.length → cel t' i c ≤ 0
theorem max_stop (hm : MS p t) (hno : ¬ ∃ c r, Mov p ob n t c r) : ∃ x, (∀ hb : Bnd t, MaxN (ntW p) ob n 0 t t x) ∧ MEnd p ob n t x := by
  cases he : entF t ob n with
  | none => exact ⟨-1, fun hb => .opt hb (entF_none he), .inl ⟨rfl, entF_none he⟩⟩
  | some c =>
    have hE := entF_some he
    have hl : lvF t c (ntW p) < 0 := by
      refine Int.not_le.1 fun h => hno ⟨c, (lvF t c (ntW p)).toNat, hE, by omega⟩
    refine ⟨c, fun hb => .unb hb hE hl, .inr ⟨c, hE.lt, hE.hit, rfl, fun i hi => ?_⟩⟩
    exact (lv_spec (t := t) (c := (c : Int)) (w := ntW p) (k := t.bs.length)).1 hl i (by rw [hm.di.bl]; exact hi)
theorem max_ends (hp : LpC p) (hob : p.rws.length ≤ ob) (hob2 : ob < p.rws.length + 2) (hn : n ≤ p.obj.length + p.rws.length + 1) (I : Tb → Prop) (hI : ∀ t t' c r, MS p t → I t → Stp p ob n t t' c r → I t') (hm : MS p t) (hi : I t) :
    ∃ k t' x, MaxN (ntW p) ob n k t t' x ∧ MS p t' ∧ I t' ∧ MEnd p ob n t' x := by
  -- somewhere it stops
  have hstop : ∃ k, ¬ ∃ c r, Mov p ob n (itr (stp p ob n) k t) c r := by
    refine Classical.byContradiction fun hc => ?_
    have hmv : ∀ k, ∃ c r, Mov p ob n (itr (stp p ob n) k t) c r := fun k => Classical.byContradiction fun h => hc ⟨k, h⟩
    have hms : ∀ k, MS p (itr (stp p ob n) k t) := fun k => by
      induction k with
      | zero => exact hm
      | succ k ih =>
        obtain ⟨c, r, h⟩ := hmv k
        rw [itr_s]; exact (h.go ih hn).ms
    have h2 : ∀ k, ∃ cr : Nat × Nat, Mov p ob n (itr (stp p ob n) k t) cr.1 cr.2 := fun k => let ⟨c, r, h⟩ := hmv k; ⟨(c, r), h⟩
    obtain ⟨f, hf⟩ := Classical.axiomOfChoice h2
    exact bland hp hob hob2 hn (fun k => itr (stp p ob n) k t) (fun k => (f k).1) (fun k => (f k).2) hms (fun k => by
      show Stp p ob n _ (itr (stp p ob n) (k + 1) t) _ _
      rw [itr_s]; exact (hf k).go (hms k) hn) (fun k l he => by
      show itr (stp p ob n) (k + 1) t = itr (stp p ob n) (l + 1) t
      rw [itr_s, itr_s]; exact congrArg _ he)
  obtain ⟨k, hk⟩ := hstop
  have key : ∀ (k : Nat) (t : Tb), MS p t → I t → (¬ ∃ c r, Mov p ob n (itr (stp p ob n) k t) c r) → ∃ k t' x, MaxN (ntW p) ob n k t t' x ∧ MS p t' ∧ I t' ∧ MEnd p ob n t' x := by
    intro k
    induction k with
    | zero =>
      intro t hm hi hk
      obtain ⟨x, h1, h2⟩ := max_stop hm hk
      exact ⟨0, t, x, h1 (hm.di.small hp), hm, hi, h2⟩
    | succ k ih =>
      intro t hm hi hk
      by_cases hmv : ∃ c r, Mov p ob n t c r
      · obtain ⟨c, r, hcr⟩ := hmv
        have hs := hcr.go hm hn
        obtain ⟨k', t', x, h1, h2, h3, h4⟩ := ih (stp p ob n t) hs.ms (hI _ _ _ _ hm hi hs) hk
        refine ⟨k' + 1, t', x, .step (hm.di.small hp) hcr.1 (by rw [hcr.2]; omega) ?_, h2, h3, h4⟩
        rw [hcr.2, ← hcr.eqn]; exact h1
      · obtain ⟨x, h1, h2⟩ := max_stop hm hmv
        exact ⟨0, t, x, h1 (hm.di.small hp), hm, hi, h2⟩
  exact key k t hm hi hk
/-- Solutions are those of the first tableau. -/
def Same (p : LPr) (t : Tb) : Prop := ∀ z E : Nat → Int, (∀ i, i < p.rws.length → E i = 0) → (Hom p (newTab p) z E ↔ Hom p t z E)
theorem Same.new : Same p (newTab p) := fun _ _ _ => Iff.rfl
theorem Same.piv {t' : Tb} {r c : Nat} {s : Int} (h : Same p t) (hd : DI p t) (hr : r < p.rws.length) (hp : cel t r c ≠ 0) (he : PivE p t t' r c s) : Same p t' := fun z E hE => (h z E hE).trans (Hom.piv hd hr hp he (hE r hr))
theorem Same.stp {t' : Tb} {r c : Nat} (h : Same p t) (hm : MS p t) (hs : Stp p ob n t t' c r) : Same p t' := h.piv hm.di hs.hr (by have := hs.pp; omega) hs.pe
theorem dirE_0 {c : Nat} : ∀ i, i < p.rws.length → dirE p t c i = 0 := fun i hi => by unfold dirE; rw [if_pos hi]
theorem dirE_1 {c i : Nat} (hi : p.rws.length ≤ i) : dirE p t c i = -(cel t i c) := by unfold dirE; rw [if_neg (by omega)]
/-- Neither objective can grow for ever. -/
theorem not_unb (hp : LpC p) (hs : Same p t) (hm : MS p t) (hob : ob = p.rws.length ∨ ob = p.rws.length + 1) (hn : n ≤ p.obj.length + p.rws.length + 1) {x : Int} (h : MEnd p ob n t x) : x = -1 ∧ ∀ j : Nat, j < n → 0 ≤ cel t ob j := by
  rcases h with h | ⟨c, hc, hneg, hx, hle⟩
  · exact h
  · exfalso
    have hh := (hs _ _ dirE_0).2 (dir_hom hm.di (c := c) (by unfold ntW; omega))
    rcases hob with rfl | rfl
    · have h1 := hom_goal hh
      rw [dirE_1 (Nat.le_refl _)] at h1
      have h2 := sm_nonneg (n := p.obj.length) (f := fun j => -(nth p.obj j * dirZ p t c j)) fun j hj => by
        have := Int.mul_nonpos_of_nonpos_of_nonneg (hp.o j hj).2 (dir_nn hm.di hle (j := j))
        omega
      rw [sm_neg] at h2
      omega
    · have h1 := hom_art hh
      rw [dirE_1 (by omega)] at h1
      have := dir_nn hm.di hle (j := p.obj.length + p.rws.length)
      omega
end
end Go.Eng
end

section
/- What the simplex method finds, part 2: the start, the end. -/

namespace Go.Eng
section
variable {p : LPr} {t : Tb}
theorem lo_spec {w : Nat} : ∀ {k : Nat}, (loTo t w k < 0 → ∀ i : Nat, i < k → 0 ≤ cel t i ((w : Int) - 1)) ∧ (0 ≤ loTo t w k → cel t (loTo t w k) ((w : Int) - 1) < 0 ∧ ∀ i : Nat, i < k → cel t (loTo t w k) ((w : Int) - 1) ≤ cel t i ((w : Int) - 1))
  | 0 => ⟨fun _ i hi => by omega, fun h => by simp [loTo] at h⟩
  | k + 1 => by
    obtain ⟨h1, h2⟩ := lo_spec (w := w) (k := k)
    by_cases hc : loC t w (loTo t w k) k
    · rw [lo_t hc]
      refine ⟨fun h => by omega, fun _ => ⟨hc.1, fun i hi => ?_⟩⟩
      by_cases hik : i = k
      · subst hik; exact Int.le_refl _
      · have hc1 := hc.1
        rcases hc.2 with hb | hb
        · have := h1 hb i (by omega); omega
        · by_cases hb0 : loTo t w k < 0
          · have := h1 hb0 i (by omega); omega
          · have := (h2 (by omega)).2 i (by omega); omega
    · rw [lo_f hc]
      have hk : loTo t w k < 0 → 0 ≤ cel t k ((w : Int) - 1) := fun hb => Int.not_lt.1 fun h => hc ⟨h, .inl hb⟩
      refine ⟨fun h i hi => ?_, fun h => ⟨(h2 h).1, fun i hi => ?_⟩⟩
      · by_cases hik : i = k
        · subst hik; exact hk h
        · exact h1 h i (by omega)
      · by_cases hik : i = k
        · subst hik
          refine Int.not_lt.1 fun hlt => hc ⟨?_, .inr hlt⟩
          have := (h2 h).1; omega
        · exact (h2 h).2 i (by omega)
/-! ### Points -/
structure Pt (p : LPr) (x : Nat → Int) (d : Int) : Prop where
  dp : 0 < d
  nn : ∀ j : Nat, j < p.obj.length → 0 ≤ x j
  row : ∀ i : Nat, i < p.rws.length → sm p.obj.length (fun j => nth (nth p.rws i) j * x j) ≤ nth p.bnd i * d
def lval (p : LPr) (x : Nat → Int) : Int := sm p.obj.length fun j => nth p.obj j * x j
def ptZ (p : LPr) (x : Nat → Int) (d : Int) : Nat → Int := fun j => if j < p.obj.length then x j else if j < p.obj.length + p.rws.length then nth p.bnd ((j - p.obj.length : Nat) : Int) * d - sm p.obj.length (fun k => nth (nth p.rws ((j - p.obj.length : Nat) : Int)) k * x k) else if j = p.obj.length + p.rws.length then 0 else -d
theorem Pt.hom {x : Nat → Int} {d : Int} : Hom p (newTab p) (ptZ p x d) (fun i => if i = p.rws.length then lval p x else 0) := by
  refine hom_of (fun i hi => if_neg (by omega)) (fun i hi => ?_) ?_ ?_
  · rw [sm_congr (g := fun j => nth (nth p.rws i) j * x j) (fun j hj => by unfold ptZ; rw [if_pos hj])]
    have e1 : ptZ p x d (p.obj.length + i) = nth p.bnd i * d - sm p.obj.length (fun k => nth (nth p.rws i) k * x k) := by
      unfold ptZ; rw [if_neg (by omega), if_pos (by omega), show p.obj.length + i - p.obj.length = i from by omega]
    have e2 : ptZ p x d (p.obj.length + p.rws.length) = 0 := by unfold ptZ; rw [if_neg (by omega), if_neg (by omega), if_pos rfl]
    have e3 : ptZ p x d (p.obj.length + p.rws.length + 1) = -d := by unfold ptZ; rw [if_neg (by omega), if_neg (by omega), if_neg (by omega)]
    rw [e1, e2, e3, Int.mul_neg]; omega
  · rw [if_pos rfl]
    exact sm_congr fun j hj => by unfold ptZ; rw [if_pos hj]
  · rw [if_neg (by omega)]
    unfold ptZ; rw [if_neg (by omega), if_neg (by omega), if_pos rfl]; rfl
theorem Pt.zn {x : Nat → Int} {d : Int} (h : Pt p x d) {j : Nat} (hj : j < p.obj.length + p.rws.length + 1) : 0 ≤ ptZ p x d j := by
  unfold ptZ
  by_cases h1 : j < p.obj.length
  · rw [if_pos h1]; exact h.nn j h1
  · by_cases h2 : j < p.obj.length + p.rws.length
    · rw [if_neg h1, if_pos h2]; have := h.row (j - p.obj.length) (by omega); omega
    · rw [if_neg h1, if_neg h2, if_pos (by omega)]; exact Int.le_refl _
/-- The equation of an objective row at a point. -/
theorem Pt.eqn {x : Nat → Int} {d : Int} (hs : Same p t) {i : Nat} (hi : p.rws.length ≤ i) (hi2 : i < p.rws.length + 2) :
    t.dn * (if i = p.rws.length then lval p x else 0) + sm (p.obj.length + p.rws.length) (fun j => cel t i j * ptZ p x d j) - cel t i ((ntW p : Int) - 1) * d = 0 := by
  have h := (hs _ _ (fun k hk => if_neg (by omega))).1 (Pt.hom (p := p) (x := x) (d := d)) i hi2
  rw [ntW_eq] at h
  simp only [sm] at h
  have e2 : ptZ p x d (p.obj.length + p.rws.length) = 0 := by unfold ptZ; rw [if_neg (by omega), if_neg (by omega), if_pos rfl]
  have e3 : ptZ p x d (p.obj.length + p.rws.length + 1) = -d := by unfold ptZ; rw [if_neg (by omega), if_neg (by omega), if_neg (by omega)]
  rw [e2, e3, Int.mul_zero, Int.mul_neg] at h
  have e4 : ((ntW p : Int) - 1) = ((p.obj.length + p.rws.length + 1 : Nat) : Int) := by unfold ntW; omega
  rw [e4]; omega
/-- The point of a tableau without the artificial variable. -/
theorem base_pt (hp : LpC p) (hs : Same p t) (hm : MS p t) (hna : ∀ k : Nat, k < p.rws.length → nth t.bs k ≠ (p.obj.length : Int) + p.rws.length) : ∃ x, Pt p x t.dn ∧ lval p x = cel t p.rws.length ((ntW p : Int) - 1) := by
  have e4 : ((ntW p : Int) - 1) = ((p.obj.length + p.rws.length + 1 : Nat) : Int) := by unfold ntW; omega
  have hh := (hs _ _ dirE_0).2 (dir_hom hm.di (c := p.obj.length + p.rws.length + 1) (by unfold ntW; omega))
  obtain ⟨z, hz⟩ : ∃ z, z = dirZ p t (p.obj.length + p.rws.length + 1) := ⟨_, rfl⟩
  rw [← hz] at hh
  have hzn : ∀ j, j < p.obj.length + p.rws.length + 1 → z j ≤ 0 := fun j hj => by
    rw [hz]; unfold dirZ
    rw [if_neg (by omega)]
    have := sm_nonneg (n := p.rws.length) (f := fun i => -(if nth t.bs i = (j : Int) then -(cel t i ((p.obj.length + p.rws.length + 1 : Nat) : Int)) else 0)) fun i hi => by
      have := hm.pf i hi
      rw [e4] at this
      split <;> omega
    rw [sm_neg] at this; omega
  have hza : z (p.obj.length + p.rws.length) = 0 := by
    rw [hz]; unfold dirZ
    rw [if_neg (by omega), sm_zero (fun i hi => if_neg (by have := hna i hi; omega))]; rfl
  have hzl : z (p.obj.length + p.rws.length + 1) = t.dn := by
    rw [hz]; unfold dirZ
    rw [if_pos rfl, sm_zero (fun i hi => if_neg (by have := hm.di.br i hi; omega))]; omega
  refine ⟨fun j => -(z j), ⟨hm.di.dp, fun j hj => by have := hzn j (by omega); show 0 ≤ -(z j); omega, fun i hi => ?_⟩, ?_⟩
  · have h1 := hom_row hh hi (dirE_0 i hi)
    rw [hza, hzl] at h1
    have h2 := hzn (p.obj.length + i) (by omega)
    rw [sm_congr (g := fun j => -(nth (nth p.rws i) j * z j)) (fun j _ => by rw [Int.mul_neg]), sm_neg]
    omega
  · have h1 := hom_goal hh
    rw [dirE_1 (Nat.le_refl _)] at h1
    unfold lval
    rw [sm_congr (g := fun j => -(nth p.obj j * z j)) (fun j _ => by rw [Int.mul_neg]), sm_neg, e4]
    omega
/-! ### The start -/
theorem new_bs {k : Nat} (hk : k < p.rws.length) : nth (newTab p).bs k = (p.obj.length : Int) + k := by
  unfold newTab ntBs; rw [nth_rangeMap hk]; omega
/-- No artificial variable in the basis. -/
def NoA (p : LPr) (t : Tb) : Prop := ∀ k : Nat, k < p.rws.length → nth t.bs k ≠ (p.obj.length : Int) + p.rws.length
theorem art_zero (hs : Same p t) (hm : MS p t) {r : Nat} (hr : r < p.rws.length) (hb : nth t.bs r = (p.obj.length : Int) + p.rws.length) (h0 : 0 ≤ cel t ((p.rws.length + 1 : Nat) : Int) ((ntW p : Int) - 1)) : cel t r ((ntW p : Int) - 1) = 0 := by
  have e4 : ((ntW p : Int) - 1) = ((p.obj.length + p.rws.length + 1 : Nat) : Int) := by unfold ntW; omega
  have hh := (hs _ _ dirE_0).2 (dir_hom hm.di (c := p.obj.length + p.rws.length + 1) (by unfold ntW; omega))
  have h1 := hom_art hh
  rw [dirE_1 (by omega)] at h1
  have h2 : dirZ p t (p.obj.length + p.rws.length + 1) (p.obj.length + p.rws.length) = -(cel t r ((p.obj.length + p.rws.length + 1 : Nat) : Int)) := by
    unfold dirZ
    rw [if_neg (by omega), sm_one hr (fun i hi hir => if_neg (fun e => hir (hm.di.inj hi hr (e.trans (by rw [hb]; omega))))), if_pos (by rw [hb]; omega)]; omega
  rw [h2] at h1
  have := hm.pf r hr
  rw [e4] at this h0 ⊢
  omega
theorem art_row (hs : Same p t) (hm : MS p t) {r : Nat} (hr : r < p.rws.length) (hb : nth t.bs r = (p.obj.length : Int) + p.rws.length) (h0 : cel t r ((ntW p : Int) - 1) = 0) : ∃ c, c < p.obj.length + p.rws.length ∧ Nzc t r (ntW p) c := by
  have e4 : ((ntW p : Int) - 1) = ((p.obj.length + p.rws.length + 1 : Nat) : Int) := by unfold ntW; omega
  have hu := hm.di.unit (i := r) (by omega) hr
  rw [hb, if_pos rfl] at hu
  have hdp := hm.di.dp
  have hsome : ∃ j, j < p.obj.length + p.rws.length ∧ cel t r j ≠ 0 := by
    refine Classical.byContradiction fun hn => ?_
    have hz0 : ∀ j : Nat, j < p.obj.length + p.rws.length → cel t r j = 0 := fun j hj => Classical.byContradiction fun h => hn ⟨j, hj, h⟩
    -- a solution with the artificial variable 1
    obtain ⟨z, hz⟩ : ∃ z : Nat → Int, z = fun j => if j < p.obj.length then 0 else if j < p.obj.length + p.rws.length then 1 + nth p.bnd ((j - p.obj.length : Nat) : Int) else if j = p.obj.length + p.rws.length then 1 else -1 := ⟨_, rfl⟩
    obtain ⟨E, hE⟩ : ∃ E : Nat → Int, E = fun i => if i = p.rws.length + 1 then -1 else 0 := ⟨_, rfl⟩
    have hE0 : ∀ i, i < p.rws.length → E i = 0 := fun i hi => by rw [hE]; exact if_neg (by omega)
    have hza : z (p.obj.length + p.rws.length) = 1 := by rw [hz]; dsimp only; rw [if_neg (by omega), if_neg (by omega), if_pos rfl]
    have hzl : z (p.obj.length + p.rws.length + 1) = -1 := by rw [hz]; dsimp only; rw [if_neg (by omega), if_neg (by omega), if_neg (by omega)]
    have hzx : ∀ j, j < p.obj.length → z j = 0 := fun j hj => by rw [hz]; exact if_pos hj
    have hh : Hom p (newTab p) z E := by
      refine hom_of hE0 (fun i hi => ?_) ?_ ?_
      · rw [sm_zero (fun j hj => by rw [hzx j hj, Int.mul_zero]), hza, hzl]
        have : z (p.obj.length + i) = 1 + nth p.bnd i := by rw [hz]; dsimp only; rw [if_neg (by omega), if_pos (by omega), show p.obj.length + i - p.obj.length = i from by omega]
        rw [this]; omega
      · rw [sm_zero (fun j hj => by rw [hzx j hj, Int.mul_zero]), hE]; exact if_neg (by omega)
      · rw [hza, hE]; exact if_pos rfl
    have h1 := (hs z E hE0).1 hh r (by omega)
    rw [hE0 r hr, Int.mul_zero, Int.zero_add, ntW_eq] at h1
    simp only [sm] at h1
    rw [sm_zero (fun j hj => by rw [hz0 j hj, Int.zero_mul]), hza, hzl] at h1
    rw [e4] at h0
    have e5 : (p.obj.length : Int) + (p.rws.length : Int) = ((p.obj.length + p.rws.length : Nat) : Int) := by omega
    rw [e5] at hu
    rw [hu, h0] at h1
    omega
  cases hf : nzF t r (ntW p) with
  | none =>
    obtain ⟨j, hj, hne⟩ := hsome
    unfold nzF at hf
    rw [List.find?_range_eq_none] at hf
    have := hf j (by unfold ntW; omega)
    simp at this; exact absurd this hne
  | some c =>
    have hn := nzF_some hf
    obtain ⟨j, hj, hne⟩ := hsome
    refine ⟨c, ?_, hn⟩
    refine Nat.lt_of_not_le fun hle => hne (hn.all j (by omega))
/-- The artificial variable leaves the basis. -/
theorem drive_ends (hp : LpC p) : ∀ (d : Nat) {r : Nat} {t : Tb}, r + d = p.rws.length → Same p t → MS p t → (∀ k : Nat, k < r → nth t.bs k ≠ (p.obj.length : Int) + p.rws.length) → (0 ≤ cel t ((p.rws.length + 1 : Nat) : Int) ((ntW p : Int) - 1) ∨ NoA p t) → ∃ t', DrvN (ntW p) r t t' ∧ Same p t' ∧ MS p t' ∧ NoA p t'
  | 0, r, t, hr, hs, hm, hk, _ => ⟨t, .done (by rw [hm.di.bl]; omega), hs, hm, fun k hk' => hk k (by omega)⟩
  | d + 1, r, t, hr, hs, hm, hk, h0 => by
    have hrl : r < t.bs.length := by rw [hm.di.bl]; omega
    have hrm : r < p.rws.length := by omega
    have hw2 : (ntW p : Int) - 2 = (p.obj.length : Int) + p.rws.length := by unfold ntW; omega
    by_cases hb : nth t.bs r = (p.obj.length : Int) + p.rws.length
    · have h00 := art_zero hs hm hrm hb (h0.resolve_right fun h => h r hrm hb)
      obtain ⟨c, hc, hn⟩ := art_row hs hm hrm hb h00
      obtain ⟨hdi, s, hpe⟩ := hm.di.piv hrm (c := c) (by omega) hn.hit
      have e4 : ((ntW p : Int) - 1) = ((p.obj.length + p.rws.length + 1 : Nat) : Int) := by unfold ntW; omega
      have hm' : MS p (pivF t r c) := ⟨hdi, fun i hi => by
        rw [e4] at h00 ⊢
        by_cases hir : i = r
        · subst hir; rw [hpe.row _ (by unfold ntW; omega), h00, Int.mul_zero]; exact Int.le_refl _
        · have ho := hpe.oth i (by omega) hir (p.obj.length + p.rws.length + 1) (by unfold ntW; omega)
          rw [h00, Int.mul_zero, Int.sub_zero] at ho
          have hpi := hm.pf i hi
          rw [e4] at hpi
          have hsp : 0 < s * cel t r c := by rw [← hpe.dn]; exact hdi.dp
          have h3 : 0 ≤ cel (pivF t r c) i ((p.obj.length + p.rws.length + 1 : Nat) : Int) * t.dn := by
            rw [ho, Int.mul_left_comm]; exact Int.mul_nonneg hpi (by omega)
          refine Int.not_lt.1 fun hlt => ?_
          have := Int.mul_neg_of_neg_of_pos hlt hm.di.dp
          omega⟩
      have hno : NoA p (pivF t r c) := fun k hk' he => by
        rw [hpe.bs, nth_set (by omega) (by rw [hm.di.bl]; omega)] at he
        split at he
        · omega
        · rename_i hkr
          exact hkr (by have := hm.di.inj hk' hrm (he.trans hb.symm); omega)
      obtain ⟨t', g1, g2, g3, g4⟩ := drive_ends hp d (r := r + 1) (t := pivF t r c) (by omega) (hs.piv hm.di hrm hn.hit hpe) hm' (fun k hk' => hno k (by omega)) (.inr hno)
      exact ⟨t', .piv hrl (by rw [hb, hw2]) (hm.di.small hp) hn g1, g2, g3, g4⟩
    · obtain ⟨t', g1, g2, g3, g4⟩ := drive_ends hp d (r := r + 1) (t := t) (by omega) hs hm (fun k hk' => by
        by_cases hkr : k = r
        · subst hkr; exact hb
        · exact hk k (by omega)) h0
      exact ⟨t', .skip hrl (by rw [hw2]; exact hb) g1, g2, g3, g4⟩
theorem start_ends (hp : LpC p) : (∃ t1, StartN (ntW p) (newTab p) t1 true ∧ Same p t1 ∧ MS p t1 ∧ NoA p t1) ∨ (∃ t1, StartN (ntW p) (newTab p) t1 false ∧ MS p t1 ∧ ∀ x d, ¬ Pt p x d) := by
  have e4 : ((ntW p : Int) - 1) = ((p.obj.length + p.rws.length + 1 : Nat) : Int) := by unfold ntW; omega
  have e5 : (ntW p : Int) - 2 = ((p.obj.length + p.rws.length : Nat) : Int) := by unfold ntW; omega
  obtain ⟨s1, s2⟩ := lo_spec (t := newTab p) (w := ntW p) (k := (newTab p).bs.length)
  have hlin := loF_in (t := newTab p) (w := ntW p)
  rw [newTab_bl] at hlin
  by_cases hl : loF (newTab p) (ntW p) < 0
  · refine .inl ⟨newTab p, .pos hl, Same.new, ⟨DI.new, fun i hi => s1 hl i (by rw [newTab_bl]; exact hi)⟩, fun k hk => by rw [new_bs hk]; omega⟩
  · obtain ⟨l, hle⟩ := Int.eq_ofNat_of_zero_le (Int.not_lt.1 hl)
    have hlm : l < p.rws.length := by omega
    obtain ⟨q1, q2⟩ := s2 (Int.not_lt.1 hl)
    have hle' : loTo (newTab p) (ntW p) (newTab p).bs.length = (l : Int) := hle
    rw [hle'] at q1 q2
    have hpc : cel (newTab p) l ((p.obj.length + p.rws.length : Nat) : Int) = -1 := by
      rw [cel_new hlm (by unfold ntW; omega), if_neg (by omega), if_neg (by omega), if_pos rfl]
    have hpr : ∀ i : Nat, i < p.rws.length → cel (newTab p) i ((p.obj.length + p.rws.length : Nat) : Int) = -1 := fun i hi => by
      rw [cel_new hi (by unfold ntW; omega), if_neg (by omega), if_neg (by omega), if_pos rfl]
    obtain ⟨hdi, s, hpe⟩ := (DI.new (p := p)).piv hlm (c := p.obj.length + p.rws.length) (by omega) (by rw [hpc]; decide)
    have hs : s = -1 := by
      rcases hpe.s1 with h1 | h1
      · have := hdi.dp; rw [hpe.dn, h1, hpc] at this; omega
      · exact h1
    subst hs
    have hd1 : (newTab p).dn = 1 := rfl
    have hm1 : MS p (pivF (newTab p) l ((p.obj.length + p.rws.length : Nat) : Int)) := ⟨hdi, fun i hi => by
      rw [e4] at q1 q2 ⊢
      by_cases hir : i = l
      · subst hir; rw [hpe.row _ (by unfold ntW; omega)]; omega
      · have ho := hpe.oth i (by omega) hir (p.obj.length + p.rws.length + 1) (by unfold ntW; omega)
        rw [hd1, Int.mul_one, hpc, hpr i hi] at ho
        have := q2 i (by rw [newTab_bl]; exact hi)
        omega⟩
    have hsame1 := Same.new.piv DI.new hlm (by rw [hpc]; decide) hpe
    obtain ⟨k, t2, x, g1, g2, g3, g4⟩ := max_ends hp (ob := p.rws.length + 1) (n := ntW p - 1) (by omega) (by omega) (by unfold ntW; omega) (Same p) (fun t t' c r hm hi hst => hi.stp hm hst) hm1 hsame1
    obtain ⟨hx, hall⟩ := not_unb hp g3 g2 (.inr rfl) (by unfold ntW; omega) g4
    have hrun : MaxN (ntW p) ((newTab p).bs.length + 1) (ntW p - 1) k (pivF (newTab p) (loF (newTab p) (ntW p)) ((ntW p : Int) - 2)) t2 x := by
      rw [hle, e5, newTab_bl]
      exact g1
    have hbnd := (DI.new (p := p)).small hp
    by_cases hneg : cel t2 ((p.rws.length + 1 : Nat) : Int) ((ntW p : Int) - 1) < 0
    · refine .inr ⟨t2, .no hbnd hl hrun (by rw [newTab_bl]; exact hneg), g2, fun y d hy => ?_⟩
      have h1 := Pt.eqn (x := y) (d := d) g3 (i := p.rws.length + 1) (by omega) (by omega)
      rw [if_neg (by omega), Int.mul_zero, Int.zero_add] at h1
      have h2 := sm_nonneg (n := p.obj.length + p.rws.length) (f := fun j => cel t2 ((p.rws.length + 1 : Nat) : Int) j * ptZ p y d j) fun j hj => Int.mul_nonneg (hall j (by unfold ntW; omega)) (hy.zn (by omega))
      have h3 := Int.mul_neg_of_neg_of_pos hneg hy.dp
      omega
    · obtain ⟨t3, d1, d2, d3, d4⟩ := drive_ends hp p.rws.length (r := 0) (t := t2) (by omega) g3 g2 (fun k hk => by omega) (.inl (by omega))
      exact .inl ⟨t3, .yes hbnd hl hrun (by rw [newTab_bl]; exact hneg) d1, d2, d3, d4⟩
/-- The program has no point, or its greatest value is found. -/
theorem lp_solved (hp : LpC p) : (SolR p none ∧ ∀ x d, ¬ Pt p x d) ∨ ∃ T D, SolR p (some (lowF T D)) ∧ inB T ∧ inB D ∧ 0 < D ∧ (∃ x, Pt p x D ∧ lval p x = T) ∧ ∀ y d, Pt p y d → lval p y * D ≤ T * d := by
  have e4 : ((ntW p : Int) - 1) = (p.obj.length : Int) + p.rws.length + 1 := by unfold ntW; omega
  rcases start_ends hp with ⟨t1, h1, h2, h3, h4⟩ | ⟨t1, h1, h2, h3⟩
  · obtain ⟨k, t2, x, g1, g2, g3, g4⟩ := max_ends hp (ob := p.rws.length) (n := p.obj.length + p.rws.length) (Nat.le_refl _) (by omega) (by omega) (fun t => Same p t ∧ NoA p t) (fun t t' c r hm hi hst => ⟨hi.1.stp hm hst, fun k hk he => by
      rw [hst.pe.bs, nth_set (by omega) (by rw [hm.di.bl]; omega)] at he
      split at he
      · have := hst.hc; omega
      · exact hi.2 k hk he⟩) h3 ⟨h2, h4⟩
    obtain ⟨hx, hall⟩ := not_unb hp g3.1 g2 (.inl rfl) (by omega) g4
    subst hx
    have hsm := g2.di.small hp
    refine .inr ⟨cel t2 p.rws.length ((ntW p : Int) - 1), t2.dn, ?_, hsm.cel, hsm.dn, g2.di.dp, base_pt hp g3.1 g2 g3.2, fun y d hy => ?_⟩
    · rw [e4]
      exact .opt h1 g1 g2.di.dp (fun i hi => (g2.di.br i hi).1)
    · have h5 := Pt.eqn (x := y) (d := d) g3.1 (i := p.rws.length) (Nat.le_refl _) (by omega)
      rw [if_pos rfl] at h5
      have h6 := sm_nonneg (n := p.obj.length + p.rws.length) (f := fun j => cel t2 p.rws.length j * ptZ p y d j) fun j hj => Int.mul_nonneg (hall j hj) (hy.zn (by omega))
      rw [Int.mul_comm (lval p y)]
      omega
  · exact .inl ⟨.inf h1 (h2.di.small hp) h2.di.dp, h3⟩
end
end Go.Eng
end

section
/- The bound of counting: least over the points; at least the goals that are not true at first. -/

namespace Go.Eng
section
variable {t : Tsk}
theorem cpA_e (h : cpF t = (0, 0)) : (∀ r, r ∈ (cpA t).rws → r.length = t.ops.length ∧ ∀ x, x ∈ r → -1 ≤ x ∧ x ≤ 1) ∧ ∀ x, x ∈ (cpA t).bnd → -1 ≤ x ∧ x ≤ 0 := by
  refine ⟨fun r hr => ?_, fun x hx => ?_⟩
  · rw [cpA_r] at hr
    have hr := List.mem_of_mem_take hr
    unfold allR at hr
    rcases List.mem_append.1 hr with hr | hr
    · obtain ⟨q, _, rfl⟩ := List.mem_map.1 hr
      refine ⟨by simp [gRow], fun x hx => ?_⟩
      unfold gRow at hx
      obtain ⟨o, _, rfl⟩ := List.mem_map.1 hx
      have := chg_in (o := o) (p := q)
      omega
    · obtain ⟨q, _, rfl⟩ := List.mem_map.1 hr
      refine ⟨by simp [lRow], fun x hx => ?_⟩
      unfold lRow at hx
      obtain ⟨i, _, rfl⟩ := List.mem_map.1 hx
      split <;> omega
  · rw [cpA_b] at hx
    have hx := List.mem_of_mem_take hx
    unfold allB at hx
    rcases List.mem_append.1 hx with hx | hx
    · obtain ⟨q, _, rfl⟩ := List.mem_map.1 hx
      unfold gBnd; split <;> omega
    · obtain ⟨q, _, rfl⟩ := List.mem_map.1 hx
      omega
theorem cpA_ol : (cpA t).obj.length = t.ops.length := by simp [cpA]
theorem cpA_oj {j : Nat} (hj : j < t.ops.length) : nth (cpA t).obj j = -(nth t.ops j).cost := by
  rw [nth_eq (by rw [cpA_ol]; exact hj), nth_eq hj]; simp [cpA]
theorem cpA_lc (h : cpF t = (0, 0)) : LpC (cpA t) := by
  obtain ⟨h1, h2⟩ := cpF_inv h
  have hV := tskF_v h1
  have hk := cpA_ok h
  obtain ⟨hrow, hbn⟩ := cpA_e h
  refine ⟨hk, fun i hi j hj => ?_, fun i hi => ?_, fun j hj => ?_⟩
  · obtain ⟨e1, e2⟩ := hrow _ (nth_mem (l := (cpA t).rws) (n := (i : Int)) (by omega) (by omega))
    rw [cpA_ol] at hj
    exact e2 _ (nth_mem (l := nth (cpA t).rws i) (n := (j : Int)) (by omega) (by omega))
  · have := hk.b
    exact hbn _ (nth_mem (l := (cpA t).bnd) (n := (i : Int)) (by omega) (by omega))
  · rw [cpA_ol] at hj
    rw [cpA_oj hj]
    have hc := (hV.op j hj).2
    have hc2 := cl_cost h2 hj
    omega
theorem low_mul {T D : Int} (hD : 0 < D) : ∃ g : Int, 0 < g ∧ T = g * (lowF T D).1 ∧ D = g * (lowF T D).2 := by
  have hg : 0 < Int.gcd T D := Int.gcd_pos_of_ne_zero_right _ (by omega)
  refine ⟨(Int.gcd T D : Int), by omega, ?_, ?_⟩
  · exact (Int.mul_tdiv_cancel' (Int.gcd_dvd_left ..)).symm
  · exact (Int.mul_tdiv_cancel' (Int.gcd_dvd_right ..)).symm
/-- The number is the least cost of a point, as a fraction. -/
def CpB (t : Tsk) (N D : Int) : Prop := (-1000000000 ≤ N ∧ N ≤ 1000000000 ∧ 0 < D ∧ D ≤ 1000000000) ∧
  (((∀ x d, ¬ Pt (cpA t) x d) ∧ N = 1000000000 ∧ D = 1) ∨
   ((∃ x e, 0 < e ∧ Pt (cpA t) x (e * D) ∧ (sm t.ops.length fun j => (nth t.ops j).cost * x j) = e * N) ∧
    ∀ y d, Pt (cpA t) y d → N * d ≤ (sm t.ops.length fun j => (nth t.ops j).cost * y j) * D))
/-! ### goals -/
theorem sm_le {f g : Nat → Int} : ∀ {n : Nat}, (∀ i, i < n → f i ≤ g i) → sm n f ≤ sm n g
  | 0, _ => Int.le_refl _
  | n + 1, h => by
    have h1 := sm_le (n := n) fun i hi => h i (by omega)
    have h2 := h n (by omega)
    simp only [sm]
    omega
end
end Go.Eng
end

section
/- Plans of a task: states, runs; a vector; sums in range. -/

namespace Go.Eng
abbrev vecC (v : List Int × Int) : List D := [ints v.1, .v (.int .i64 v.2)]
abbrev vecsD (l : List (List Int × Int)) : D := .s 2 (l.map vecC)
theorem sm_s {n : Nat} {f : Nat → Int} : sm (n + 1) f = sm n f + f n := rfl
/-! ### states -/
def keepTo (s d : List Int) (k : Nat) : List Int := (s.take k).filter fun x => decide (x ∉ d)
def upS (s a d : List Int) : List Int := dd (sortI (keepTo s d s.length ++ a))
theorem up_mem {s a d : List Int} {x : Int} : x ∈ upS s a d ↔ (x ∈ s ∧ x ∉ d) ∨ x ∈ a := by
  unfold upS
  rw [dd_mem, sortI_mem, List.mem_append]
  unfold keepTo
  rw [List.take_length]
  simp
theorem up_lt {s a d : List Int} : (upS s a d).Pairwise (· < ·) := dd_strictI sortI_sorted
def stS (t : Tsk) (s : List Int) (l : List Int) : Nat → List Int
  | 0 => s
  | k + 1 => upS (stS t s l k) (nth t.ops (nth l k)).add (nth t.ops (nth l k)).del
def canS (t : Tsk) (s : List Int) (i : Int) : Prop := SubP (nth t.ops i).pre s
instance {t : Tsk} {s : List Int} {i : Int} : Decidable (canS t s i) := by unfold canS; infer_instance
/-! ### a sorted list within another -/
end Go.Eng
end

section
/- Walks, written by gen.py out of hints. -/



namespace Go.Proofs.Ytlidcpmdgceboaa
open Go.Eng
set_option maxRecDepth 10000
set_option maxHeartbeats 1000000

end Go.Proofs.Ytlidcpmdgceboaa
end

section
/- The engine: a literal slice of the call's own. -/

namespace Go.Eng
open Go.RowKit (Below)
section
variable {P : Program} {B : Nat} {o : Oper} {e : Env} {M : Mem}
end
end Go.Eng
end

section
/- Runs of plans: states are sets; costs. -/

namespace Go.Eng
section
variable {t : Tsk} {s l : List Int}
structure StP (t : Tsk) (s : List Int) : Prop where
  so : s.Pairwise (· < ·)
  rg : ∀ x, x ∈ s → 0 ≤ x ∧ x < t.facts
theorem StP.len (hV : TskV t) (h : StP t s) : s.length ≤ 24 := by
  have := pw_lt_len (n := t.facts) (x := 0) h.so (fun y hy => h.rg y hy)
  have := hV.facts
  omega
def cstTo (t : Tsk) (l : List Int) (k : Nat) : Int := sm k fun i => (nth t.ops (nth l i)).cost
end
end Go.Eng
end

section
/- The counts of a plan are a point of the program of counting. -/

namespace Go.Eng
theorem sm_le_one {f : Nat → Int} {i0 : Nat} : ∀ {n : Nat}, (∀ i, i < n → f i ≤ 0) → i0 < n → sm n f ≤ f i0
  | 0, _, h => by omega
  | n + 1, h, hi => by
    rw [sm_s]
    have h1 := h n (by omega)
    by_cases hn : i0 = n
    · subst hn
      have : sm i0 f ≤ sm i0 fun _ => 0 := sm_le fun i hi => h i (by omega)
      rw [sm_zero (f := fun _ => (0 : Int)) (fun _ _ => rfl)] at this
      omega
    · have := sm_le_one (fun i hi => h i (by omega)) (i0 := i0) (n := n) (by omega)
      omega
section
variable {t : Tsk} {l : List Int}
theorem cn_sum {n : Nat} {f : Nat → Int} (hl : PlanP n l) : ∀ {k : Nat}, k ≤ l.length → sm n (fun j => f j * cnI l j k) = sm k fun i => f (nth l i).toNat
  | 0, _ => sm_zero fun j hj => by rw [cnI_0, Int.mul_zero]
  | k + 1, hk => by
    have ih := cn_sum hl (f := f) (k := k) (by omega)
    obtain ⟨m, hm⟩ := Int.eq_ofNat_of_zero_le (hl k (by omega)).1
    have hmn : m < n := by have := (hl k (by omega)).2; omega
    rw [sm_s, ← ih]
    have e1 : sm n (fun j => f j * cnI l j (k + 1)) = sm n fun j => f j * cnI l j k + (if j = m then f j else 0) := sm_congr fun j hj => by
      by_cases hjm : j = m
      · subst hjm; rw [if_pos rfl, cnI_t (by omega) hm, Int.mul_add, Int.mul_one]
      · rw [if_neg hjm, cnI_f (by omega) (by rw [hm]; omega), Int.add_zero]
    rw [e1, sm_add]
    have e2 : sm n (fun j => if j = m then f j else 0) = f m := by
      rw [sm_one (i0 := m) hmn (fun i hi hne => if_neg hne), if_pos rfl]
    rw [e2, hm]
    rfl
theorem lmTo_p {q : Int} : ∀ {k : Nat}, q ∈ lmTo t k → lmP t q = true
  | 0, h => by simp [lmTo] at h
  | k + 1, h => by
    by_cases c : lmP t k = true
    · rw [lm_t c, List.mem_append, List.mem_singleton] at h
      rcases h with h | rfl
      · exact lmTo_p h
      · exact c
    · rw [lm_f c] at h; exact lmTo_p h
theorem acTo_p {q : Int} {m : Nat} (h : acP t q m = true) : ∀ {k : Nat}, m < k → (m : Int) ∈ acTo t q k
  | 0, hk => by omega
  | k + 1, hk => by
    by_cases hmk : m = k
    · subst hmk; rw [ac_t h]; simp
    · have ih := acTo_p h (k := k) (by omega)
      by_cases c : acP t q k = true
      · rw [ac_t c]; exact List.mem_append.2 (.inl ih)
      · rw [ac_f c]; exact ih
theorem sub_mem {a b : List Int} (h : SubP a b) {x : Int} (hx : x ∈ a) : x ∈ b := by
  obtain ⟨i, hi, he⟩ := List.getElem_of_mem hx
  rw [← nth_eq hi] at he
  rw [← he]; exact h i hi
theorem disj_mem {a b : List Int} (h : DisjP a b) {x : Int} (hx : x ∈ a) : x ∉ b := by
  obtain ⟨i, hi, he⟩ := List.getElem_of_mem hx
  rw [← nth_eq hi] at he
  rw [← he]; exact h i hi
/-- The plan works: all its steps can be done, and the goal holds at the end. -/
structure Wrk (t : Tsk) (l : List Int) : Prop where
  hv : TskV t
  hl : PlanP t.ops.length l
  c : ∀ i : Nat, i < l.length → canS t (stS t t.ini l i) (nth l i)
  g : SubP t.goal (stS t t.ini l l.length)
def inI (q : Int) (s : List Int) : Int := if q ∈ s then 1 else 0
theorem Wrk.op (h : Wrk t l) {k : Nat} (hk : k < l.length) : ∃ m : Nat, nth l k = m ∧ m < t.ops.length := by
  obtain ⟨m, hm⟩ := Int.eq_ofNat_of_zero_le (h.hl k hk).1
  exact ⟨m, hm, by have := (h.hl k hk).2; omega⟩
theorem Wrk.chg (h : Wrk t l) (q : Int) : ∀ {k : Nat}, k ≤ l.length → inI q (stS t t.ini l k) - inI q t.ini ≤ sm k fun i => chgO (nth t.ops (nth l i)) q
  | 0, _ => by simp [stS, sm]
  | k + 1, hk => by
    have ih := h.chg q (k := k) (by omega)
    have hc := h.c k (by omega)
    obtain ⟨m, hm, hmn⟩ := h.op (k := k) (by omega)
    have hdj := (h.hv.op m hmn).1.2.2.2
    have hmem : q ∈ stS t t.ini l (k + 1) ↔ (q ∈ stS t t.ini l k ∧ q ∉ (nth t.ops (nth l k)).del) ∨ q ∈ (nth t.ops (nth l k)).add := up_mem
    rw [sm_s]
    unfold canS at hc
    rw [hm] at hc hmem ⊢
    have hstep : inI q (stS t t.ini l (k + 1)) - inI q (stS t t.ini l k) ≤ chgO (nth t.ops (m : Int)) q := by
      unfold inI chgO
      by_cases h1 : q ∈ stS t t.ini l (k + 1)
      · rw [if_pos h1]
        by_cases h2 : q ∈ stS t t.ini l k
        · rw [if_pos h2]
          split
          · omega
          · split
            · rename_i hh
              rcases hmem.1 h1 with h3 | h3
              · exact absurd hh.2 h3.2
              · exact absurd hh.2 (disj_mem hdj h3)
            · omega
        · rw [if_neg h2]
          have h3 : q ∈ (nth t.ops (m : Int)).add := by
            rcases hmem.1 h1 with h3 | h3
            · exact absurd h3.1 h2
            · exact h3
          rw [if_pos ⟨fun hp => h2 (sub_mem hc hp), h3⟩]
          omega
      · rw [if_neg h1]
        by_cases h2 : q ∈ stS t t.ini l k
        · rw [if_pos h2]
          split
          · omega
          · split <;> omega
        · rw [if_neg h2]
          split
          · omega
          · split
            · rename_i hh; exact absurd (sub_mem hc hh.1) h2
            · omega
    omega
theorem Wrk.rch (h : Wrk t l) {q : Int} (hq : q ∉ t.ini) (hn : ∀ i : Nat, i < l.length → nth l i ∉ acL t q) : ∀ {k : Nat}, k ≤ l.length → ∀ x, x ∈ stS t t.ini l k → Rch t t.ini (useP t q) x
  | 0, _, x, hx => .base hx
  | k + 1, hk, x, hx => by
    have ih := h.rch hq hn (k := k) (by omega)
    have hc := h.c k (by omega)
    have hnk := hn k (by omega)
    obtain ⟨m, hm, hmn⟩ := h.op (k := k) (by omega)
    have hop := (h.hv.op m hmn).1
    have hmem : x ∈ stS t t.ini l (k + 1) ↔ (x ∈ stS t t.ini l k ∧ x ∉ (nth t.ops (nth l k)).del) ∨ x ∈ (nth t.ops (nth l k)).add := up_mem
    unfold canS at hc
    rw [hm] at hc hmem hnk
    rcases hmem.1 hx with h1 | h1
    · exact ih x h1.1
    · have hpre : ∀ y, y ∈ (nth t.ops (m : Int)).pre → Rch t t.ini (useP t q) y := fun y hy => ih y (sub_mem hc hy)
      refine .op hmn ?_ hpre h1
      unfold useP
      simp only [Bool.not_eq_true', decide_eq_false_iff_not]
      intro hqa
      refine hnk (acTo_p ?_ hmn)
      have : AllP (wtoL t q) (nth t.ops (m : Int)).pre := fun i hi => by
        have hy : nth (nth t.ops (m : Int)).pre i ∈ (nth t.ops (m : Int)).pre := nth_mem (by omega) (by omega)
        have hr := setP_mem hop.1 hy
        exact (cloL_at hr.1 hr.2).2 (hpre _ hy)
      unfold acP
      simp [hq, hqa, this]
theorem Wrk.lm (h : Wrk t l) {q : Int} (hq : q ∉ t.ini) (hL : lmP t q = true) : ∃ i : Nat, i < l.length ∧ nth l i ∈ acL t q := by
  refine Classical.byContradiction fun hn => ?_
  have hr := h.rch hq (fun i hi hx => hn ⟨i, hi, hx⟩) (Nat.le_refl _)
  have : AllP (wtoL t q) t.goal := fun i hi => by
    have hy : nth t.goal i ∈ t.goal := nth_mem (by omega) (by omega)
    have hg := setP_mem h.hv.goal hy
    exact (cloL_at hg.1 hg.2).2 (hr _ (sub_mem h.g hy))
  unfold lmP at hL
  simp [hq, this] at hL
theorem Wrk.row (h : Wrk t l) {r : List Int} {b : Int} (hrl : r.length = t.ops.length) (hs : (sm l.length fun i => nth r (nth l i)) ≤ b) : sm t.ops.length (fun j => nth r j * cnI l j l.length) ≤ b := by
  rw [cn_sum (f := fun j => nth r j) h.hl (Nat.le_refl _)]
  have e : (sm l.length fun i => nth r ((nth l i).toNat : Int)) = sm l.length fun i => nth r (nth l i) := sm_congr fun i hi => by
    obtain ⟨m, hm, hmn⟩ := h.op hi
    rw [hm]; rfl
  rw [e]; exact hs
theorem cp_row (i : Nat) (hi : i < (cpA t).rws.length) : (∃ q, q ∈ t.goal ∧ nth (cpA t).rws i = gRow t q ∧ nth (cpA t).bnd i = gBnd t q) ∨ (∃ q, q ∈ lmN t ∧ nth (cpA t).rws i = lRow t q ∧ nth (cpA t).bnd i = -1) := by
  have hi' : i < 6 ∧ i < t.goal.length + (lmN t).length := by simp [cpA] at hi; omega
  have h1 : i < (cpA t).rws.length := hi
  have h2 : i < (cpA t).bnd.length := by simp [cpA]; omega
  rw [nth_eq h1, nth_eq h2]
  simp only [cpA]
  rw [List.getElem_take, List.getElem_take]
  by_cases hg : i < t.goal.length
  · refine .inl ⟨t.goal[i], List.getElem_mem hg, ?_, ?_⟩
    · rw [List.getElem_append_left (by simpa using hg), List.getElem_map]
    · rw [List.getElem_append_left (by simpa using hg), List.getElem_map]
  · refine .inr ⟨(lmN t)[i - t.goal.length]'(by omega), List.getElem_mem _, ?_, ?_⟩
    · rw [List.getElem_append_right (by simpa using Nat.le_of_not_lt hg)]
      simp
    · rw [List.getElem_append_right (by simpa using Nat.le_of_not_lt hg)]
      simp
theorem Wrk.pt (h : Wrk t l) : Pt (cpA t) (fun j => cnI l j l.length) 1 := by
  refine ⟨by decide, fun j hj => (cnI_le (k := l.length)).1, fun i hi => ?_⟩
  rw [cpA_ol, Int.mul_one]
  rcases cp_row i hi with ⟨q, hq, e1, e2⟩ | ⟨q, hq, e1, e2⟩
  · rw [e1, e2]
    refine h.row (by simp [gRow]) ?_
    have e : (sm l.length fun i => nth (gRow t q) (nth l i)) = -(sm l.length fun i => chgO (nth t.ops (nth l i)) q) := by
      rw [← sm_neg]
      exact sm_congr fun i hi => by
        obtain ⟨m, hm, hmn⟩ := h.op hi
        rw [hm]
        unfold gRow
        rw [nth_eq (by simpa using hmn), nth_eq hmn, List.getElem_map]
    have hc := h.chg q (Nat.le_refl _)
    have hg : inI q (stS t t.ini l l.length) = 1 := if_pos (sub_mem h.g hq)
    rw [e]
    unfold gBnd
    unfold inI at hc hg
    rw [hg] at hc
    split <;> rename_i hh
    · rw [if_pos hh] at hc; omega
    · rw [if_neg hh] at hc; omega
  · rw [e1, e2]
    refine h.row (by simp [lRow]) ?_
    unfold lmN at hq
    rw [List.mem_filter] at hq
    obtain ⟨i0, hi0, hm0⟩ := h.lm (by simpa using hq.2) (lmTo_p hq.1)
    have hat : ∀ i : Nat, i < l.length → nth (lRow t q) (nth l i) = if nth l i ∈ acL t q then -1 else 0 := fun i hi => by
      obtain ⟨m, hm, hmn⟩ := h.op hi
      rw [hm]
      unfold lRow
      rw [nth_eq (by simpa using hmn)]
      simp
    have := sm_le_one (f := fun i => nth (lRow t q) (nth l i)) (n := l.length) (fun i hi => by rw [hat i hi]; split <;> omega) hi0
    rw [hat i0 hi0, if_pos hm0] at this
    exact this
theorem Wrk.cost (h : Wrk t l) : (sm t.ops.length fun j => (nth t.ops j).cost * cnI l j l.length) = cstTo t l l.length := by
  rw [cn_sum (f := fun j => (nth t.ops j).cost) h.hl (Nat.le_refl _)]
  unfold cstTo
  exact sm_congr fun i hi => by
    obtain ⟨m, hm, hmn⟩ := h.op hi
    rw [hm]; rfl
theorem Wrk.bnd (h : Wrk t l) {N D : Int} (hB : CpB t N D) : N ≤ cstTo t l l.length * D := by
  obtain ⟨hr, hB | ⟨-, hB⟩⟩ := hB
  · exact absurd h.pt (hB.1 _ _)
  · have := hB _ _ h.pt
    rw [h.cost] at this
    omega
end
end Go.Eng
end

section
/- The reference's best: states reached, words, costs. -/

namespace Go.Eng
theorem pw_ext : ∀ {a b : List Int}, a.Pairwise (· < ·) → b.Pairwise (· < ·) → (∀ x, x ∈ a ↔ x ∈ b) → a = b
  | [], [], _, _, _ => rfl
  | [], y :: b, _, _, h => by have := (h y).2 (by simp); simp at this
  | x :: a, [], _, _, h => by have := (h x).1 (by simp); simp at this
  | x :: a, y :: b, ha, hb, h => by
    rw [List.pairwise_cons] at ha hb
    have hxy : x = y := by
      have h1 := (h x).1 (by simp)
      have h2 := (h y).2 (by simp)
      rw [List.mem_cons] at h1 h2
      rcases h1 with h1 | h1
      · exact h1
      · rcases h2 with h2 | h2
        · exact h2.symm
        · have := hb.1 x h1; have := ha.1 y h2; omega
    subst hxy
    rw [pw_ext ha.2 hb.2 fun z => ⟨fun hz => by
      have h1 := (h z).1 (List.mem_cons_of_mem _ hz)
      rw [List.mem_cons] at h1
      rcases h1 with h1 | h1
      · have := ha.1 z hz; omega
      · exact h1, fun hz => by
      have h1 := (h z).2 (List.mem_cons_of_mem _ hz)
      rw [List.mem_cons] at h1
      rcases h1 with h1 | h1
      · have := hb.1 z hz; omega
      · exact h1⟩]
/-! ### words -/
def wrdTo (s : List Int) (k : Nat) : Int := sm k fun i => 2 ^ (nth s i).toNat
def wrdS (s : List Int) : Int := wrdTo s s.length
def wrdN : List Int → Nat
  | [] => 0
  | x :: s => 2 ^ x.toNat + wrdN s
/-! ### the state behind an operator -/
def afP (t : Tsk) (s : List Int) (i : Int) (q : Int) : Prop := q ∈ (nth t.ops i).add ∨ (q ∈ s ∧ q ∉ (nth t.ops i).del)
instance {t : Tsk} {s : List Int} {i q : Int} : Decidable (afP t s i q) := by unfold afP; exact inferInstance
def afTo (t : Tsk) (s : List Int) (i : Int) : Nat → List Int
  | 0 => []
  | k + 1 => if afP t s i k then afTo t s i k ++ [(k : Int)] else afTo t s i k
def afS (t : Tsk) (s : List Int) (i : Int) : List Int := afTo t s i t.facts.toNat
theorem af_t {t : Tsk} {s : List Int} {i : Int} {k : Nat} (h : afP t s i k) : afTo t s i (k + 1) = afTo t s i k ++ [(k : Int)] := by simp only [afTo]; rw [if_pos h]
theorem af_f {t : Tsk} {s : List Int} {i : Int} {k : Nat} (h : ¬ afP t s i k) : afTo t s i (k + 1) = afTo t s i k := by simp only [afTo]; rw [if_neg h]
theorem af_mem {t : Tsk} {s : List Int} {i q : Int} : ∀ {k : Nat}, q ∈ afTo t s i k ↔ 0 ≤ q ∧ q < k ∧ afP t s i q
  | 0 => by simp [afTo]; omega
  | k + 1 => by
    have ih := af_mem (t := t) (s := s) (i := i) (q := q) (k := k)
    by_cases h : afP t s i k
    · rw [af_t h, List.mem_append, List.mem_singleton, ih]
      constructor
      · rintro (⟨h1, h2, h3⟩ | rfl)
        · exact ⟨h1, by omega, h3⟩
        · exact ⟨by omega, by omega, h⟩
      · rintro ⟨h1, h2, h3⟩
        by_cases hq : q = k
        · exact .inr hq
        · exact .inl ⟨h1, by omega, h3⟩
    · rw [af_f h, ih]
      constructor
      · rintro ⟨h1, h2, h3⟩; exact ⟨h1, by omega, h3⟩
      · rintro ⟨h1, h2, h3⟩
        by_cases hq : q = k
        · subst hq; exact absurd h3 h
        · exact ⟨h1, by omega, h3⟩
theorem af_lt {t : Tsk} {s : List Int} {i : Int} : ∀ {k : Nat}, (afTo t s i k).Pairwise (· < ·)
  | 0 => by simp [afTo]
  | k + 1 => by
    have ih := af_lt (t := t) (s := s) (i := i) (k := k)
    by_cases h : afP t s i k
    · rw [af_t h, List.pairwise_append]
      refine ⟨ih, by simp, fun x hx y hy => ?_⟩
      rw [List.mem_singleton] at hy
      have := (af_mem.1 hx).2.1
      omega
    · rw [af_f h]; exact ih
theorem af_st {t : Tsk} {s : List Int} {i : Int} (hV : TskV t) : StP t (afS t s i) := ⟨af_lt, fun x hx => by
  have h := af_mem.1 hx
  have := hV.facts
  omega⟩
theorem af_up {t : Tsk} {s : List Int} {i : Nat} (hV : TskV t) (hs : StP t s) (hi : i < t.ops.length) : afS t s i = upS s (nth t.ops i).add (nth t.ops i).del := by
  refine pw_ext af_lt up_lt fun x => ?_
  rw [up_mem]
  unfold afS
  rw [af_mem]
  unfold afP
  constructor
  · rintro ⟨_, _, h | h⟩
    · exact .inr h
    · exact .inl h
  · intro h
    have hf := hV.facts
    have hr : 0 ≤ x ∧ x < t.facts := by
      rcases h with h | h
      · exact hs.rg x h.1
      · exact setP_mem (hV.op i hi).1.2.1 h
    exact ⟨hr.1, by omega, h.symm⟩
/-! ### states reached -/
def rcS (t : Tsk) (j i : Nat) (x : List (List Int) × Bool) : List (List Int) × Bool :=
  if x.2 = true then x else if canS t (nth x.1 j) i then (if wrdS (afS t (nth x.1 j) i) ∈ x.1.map wrdS then x else if x.1.length = 2000 then ([], true) else (x.1 ++ [afS t (nth x.1 j) i], false)) else x
def rcI (t : Tsk) (x : List (List Int) × Bool) (j : Nat) : Nat → List (List Int) × Bool
  | 0 => x
  | i + 1 => rcS t j i (rcI t x j i)
def rcO (t : Tsk) (s : List Int) : Nat → List (List Int) × Bool
  | 0 => ([s], false)
  | j + 1 => if (rcO t s j).2 = false ∧ j < (rcO t s j).1.length then rcI t (rcO t s j) j t.ops.length else rcO t s j
structure RcP (t : Tsk) (s : List Int) (x : List (List Int) × Bool) : Prop where
  st : ∀ y, y ∈ x.1 → StP t y
  hd : x.2 = false → 0 < x.1.length ∧ nth x.1 0 = s ∧ x.1.length ≤ 2000
  ov : x.2 = true → x.1 = []
theorem RcP.s {t : Tsk} {s : List Int} {x : List (List Int) × Bool} (hV : TskV t) (h : RcP t s x) (j i : Nat) : RcP t s (rcS t j i x) := by
  unfold rcS
  split
  · exact h
  · rename_i hx
    have hx : x.2 = false := by simpa using hx
    split
    · split
      · exact h
      · split
        · exact ⟨fun y hy => by simp at hy, fun hh => by simp at hh, fun _ => rfl⟩
        · rename_i hc hw hl
          obtain ⟨h1, h2, h3⟩ := h.hd hx
          refine ⟨fun y hy => ?_, fun _ => ⟨by simp, ?_, by simp; omega⟩, fun hh => by simp at hh⟩
          · rcases List.mem_append.1 hy with hy | hy
            · exact h.st y hy
            · rw [List.mem_singleton] at hy; subst hy; exact af_st hV
          · rw [← h2]
            have e0 : (0 : Int) = ((0 : Nat) : Int) := rfl
            rw [e0, nth_eq (by simp), nth_eq h1, List.getElem_append_left h1]
    · exact h
theorem RcP.i {t : Tsk} {s : List Int} {x : List (List Int) × Bool} (hV : TskV t) (h : RcP t s x) (j : Nat) : ∀ i : Nat, RcP t s (rcI t x j i)
  | 0 => h
  | i + 1 => (h.i hV j i).s hV j i
theorem RcP.o {t : Tsk} {s : List Int} (hV : TskV t) (hs : StP t s) : ∀ j : Nat, RcP t s (rcO t s j)
  | 0 => ⟨fun y hy => by rw [rcO, List.mem_singleton] at hy; subst hy; exact hs, fun _ => ⟨by simp [rcO], rfl, by simp [rcO]⟩, fun hh => by simp [rcO] at hh⟩
  | j + 1 => by
    simp only [rcO]
    split
    · exact (RcP.o hV hs j).i hV j _
    · exact RcP.o hV hs j
end Go.Eng
end

section
/- Words of states are injective; the costs of the states reached. -/

namespace Go.Eng
theorem wrdN_app : ∀ {a b : List Int}, wrdN (a ++ b) = wrdN a + wrdN b
  | [], b => by simp [wrdN]
  | x :: a, b => by
    have ih := wrdN_app (a := a) (b := b)
    simp only [List.cons_append, wrdN]
    omega
theorem wrd_to {s : List Int} : ∀ {k : Nat}, k ≤ s.length → wrdTo s k = (wrdN (s.take k) : Int)
  | 0, _ => by simp [wrdTo, sm, wrdN]
  | k + 1, hk => by
    have ih := wrd_to (s := s) (k := k) (by omega)
    unfold wrdTo at ih ⊢
    rw [sm_s, ih, tk_s (by omega), wrdN_app]
    simp [wrdN]
theorem wrd_n {s : List Int} : wrdS s = (wrdN s : Int) := by unfold wrdS; rw [wrd_to (Nat.le_refl _), List.take_length]
theorem wrdN_dvd {x : Nat} : ∀ {s : List Int}, (∀ y, y ∈ s → (x : Int) < y) → 2 ^ (x + 1) ∣ wrdN s
  | [], _ => by simp [wrdN]
  | y :: s, h => by
    have h1 := h y (by simp)
    exact Nat.dvd_add (Nat.pow_dvd_pow 2 (by omega)) (wrdN_dvd fun z hz => h z (List.mem_cons_of_mem _ hz))
theorem wrdN_lt {x : Nat} {a b : List Int} (ha : ∀ y, y ∈ a → (x : Int) < y) (hb : ∀ y, y ∈ b → (x : Int) < y) : 2 ^ x + wrdN a ≠ wrdN b := fun h => by
  obtain ⟨m, hm⟩ := wrdN_dvd ha
  obtain ⟨n, hn⟩ := wrdN_dvd hb
  rw [hm, hn, Nat.pow_succ] at h
  have hp : 0 < 2 ^ x := Nat.two_pow_pos x
  have e : 2 ^ x * (1 + 2 * m) = 2 ^ x * (2 * n) := by rw [Nat.mul_add, Nat.mul_one, ← Nat.mul_assoc, ← Nat.mul_assoc]; exact h
  have := Nat.eq_of_mul_eq_mul_left hp e
  omega
theorem wrdN_inj : ∀ {a b : List Int}, a.Pairwise (· < ·) → b.Pairwise (· < ·) → (∀ y, y ∈ a → 0 ≤ y) → (∀ y, y ∈ b → 0 ≤ y) → wrdN a = wrdN b → a = b
  | [], [], _, _, _, _, _ => rfl
  | [], y :: b, _, _, _, _, h => by
    have hp : 0 < 2 ^ y.toNat := Nat.two_pow_pos _
    simp only [wrdN] at h; omega
  | x :: a, [], _, _, _, _, h => by
    have hp : 0 < 2 ^ x.toNat := Nat.two_pow_pos _
    simp only [wrdN] at h; omega
  | x :: a, y :: b, ha, hb, ka, kb, h => by
    rw [List.pairwise_cons] at ha hb
    have hx0 := ka x (by simp)
    have hy0 := kb y (by simp)
    obtain ⟨n, rfl⟩ := Int.eq_ofNat_of_zero_le hx0
    obtain ⟨m, rfl⟩ := Int.eq_ofNat_of_zero_le hy0
    have hnm : n = m := by
      rcases Nat.lt_trichotomy n m with hlt | he | hlt
      · refine absurd h (wrdN_lt (x := n) ha.1 (b := (m : Int) :: b) fun z hz => ?_)
        rw [List.mem_cons] at hz
        rcases hz with rfl | hz
        · omega
        · have := hb.1 z hz; omega
      · exact he
      · refine absurd h.symm (wrdN_lt (x := m) hb.1 (b := (n : Int) :: a) fun z hz => ?_)
        rw [List.mem_cons] at hz
        rcases hz with rfl | hz
        · omega
        · have := ha.1 z hz; omega
    subst hnm
    simp only [wrdN] at h
    rw [wrdN_inj ha.2 hb.2 (fun z hz => ka z (List.mem_cons_of_mem _ hz)) (fun z hz => kb z (List.mem_cons_of_mem _ hz)) (by omega)]
theorem wrd_inj {t : Tsk} {a b : List Int} (ha : StP t a) (hb : StP t b) (h : wrdS a = wrdS b) : a = b := by
  rw [wrd_n, wrd_n] at h
  exact wrdN_inj ha.so hb.so (fun y hy => (ha.rg y hy).1) (fun y hy => (hb.rg y hy).1) (by omega)
/-! ### edges, passes -/
/-- An edge between states of the list. -/
def EdP (t : Tsk) (l : List (List Int)) (e : List Int) : Prop := ∃ i k o : Nat, i < l.length ∧ k < l.length ∧ o < t.ops.length ∧ canS t (nth l i) o ∧ wrdS (nth l k) = wrdS (afS t (nth l i) o) ∧ e = [(i : Int), (k : Int), (nth t.ops o).cost]
/-! ### a plan from a state -/
inductive Pln (t : Tsk) : List Int → Int → Prop
  | nil {s : List Int} : SubP t.goal s → Pln t s 0
  | cons {s : List Int} {o : Nat} {c : Int} : o < t.ops.length → canS t s o → Pln t (upS s (nth t.ops o).add (nth t.ops o).del) c → Pln t s ((nth t.ops o).cost + c)
theorem st_cons {t : Tsk} {s : List Int} {o : Int} {l : List Int} : ∀ {k : Nat}, stS t s (o :: l) (k + 1) = stS t (upS s (nth t.ops o).add (nth t.ops o).del) l k
  | 0 => rfl
  | k + 1 => by
    have ih := st_cons (t := t) (s := s) (o := o) (l := l) (k := k)
    show upS (stS t s (o :: l) (k + 1)) _ _ = upS (stS t _ l k) _ _
    rw [ih]
    have e : nth (o :: l) ((k + 1 : Nat) : Int) = nth l (k : Int) := by simp [nth]
    rw [e]
theorem cst_cons {t : Tsk} {o : Int} {l : List Int} : ∀ {k : Nat}, cstTo t (o :: l) (k + 1) = (nth t.ops o).cost + cstTo t l k
  | 0 => by simp [cstTo, sm, nth]
  | k + 1 => by
    have ih := cst_cons (t := t) (o := o) (l := l) (k := k)
    unfold cstTo at ih ⊢
    rw [sm_s, ih, sm_s]
    have e : nth (o :: l) ((k + 1 : Nat) : Int) = nth l (k : Int) := by simp [nth]
    rw [e]; omega
theorem Pln.list {t : Tsk} {s : List Int} {c : Int} (h : Pln t s c) : ∃ l, PlanP t.ops.length l ∧ (∀ i : Nat, i < l.length → canS t (stS t s l i) (nth l i)) ∧ SubP t.goal (stS t s l l.length) ∧ cstTo t l l.length = c := by
  induction h with
  | nil h => exact ⟨[], fun k hk => by simp at hk, fun i hi => by simp at hi, h, by simp [cstTo, sm]⟩
  | @cons s o c ho hc _ ih =>
    obtain ⟨l, h1, h2, h3, h4⟩ := ih
    refine ⟨(o : Int) :: l, fun k hk => ?_, fun i hi => ?_, ?_, ?_⟩
    · cases k with
      | zero => exact ⟨by simp [nth], by simp [nth]; omega⟩
      | succ k =>
        have e : nth ((o : Int) :: l) ((k + 1 : Nat) : Int) = nth l (k : Int) := by simp [nth]
        rw [e]; exact h1 k (by simp at hk; omega)
    · cases i with
      | zero => exact hc
      | succ i =>
        have e : nth ((o : Int) :: l) ((i + 1 : Nat) : Int) = nth l (i : Int) := by simp [nth]
        rw [e, st_cons]; exact h2 i (by simp at hi; omega)
    · rw [List.length_cons, st_cons]; exact h3
    · rw [List.length_cons, cst_cons, h4]
theorem Pln.bnd {t : Tsk} {c N D : Int} (hV : TskV t) (h : Pln t t.ini c) (hB : CpB t N D) : N ≤ c * D := by
  obtain ⟨l, h1, h2, h3, h4⟩ := h.list
  rw [← h4]
  exact Wrk.bnd ⟨hV, h1, h2, h3⟩ hB
end Go.Eng
end

section
/- Ranges of words; the walk of the states reached. -/

namespace Go.Eng
end Go.Eng
end

section
/- Costs of the states reached: passes over the edges. -/

namespace Go.Eng
def edA (E : List (List Int)) (c : Int) : List Int := E.map fun e => nth e c
def psS (E : List (List Int)) (x : List Int × Bool) (k : Nat) : List Int × Bool :=
  if nth x.1 (nth (edA E 1) k) < 1000000000 ∧ nth x.1 (nth (edA E 1) k) + nth (edA E 2) k < nth x.1 (nth (edA E 0) k) then (x.1.set (nth (edA E 0) k).toNat (nth x.1 (nth (edA E 1) k) + nth (edA E 2) k), true) else x
def psF (E : List (List Int)) (out : List Int) : Nat → List Int × Bool
  | 0 => (out, false)
  | k + 1 => psS E (psF E out k) k
inductive CsR (E : List (List Int)) : List Int → List Int → Prop
  | done {out : List Int} : (psF E out E.length).2 = false → CsR E out (psF E out E.length).1
  | step {out o : List Int} : (psF E out E.length).2 = true → CsR E (psF E out E.length).1 o → CsR E out o
structure CsP (t : Tsk) (l : List (List Int)) (out : List Int) : Prop where
  len : out.length = l.length
  rg : ∀ i : Nat, i < l.length → 0 ≤ nth out i ∧ nth out i ≤ 1000000000
  pl : ∀ i : Nat, i < l.length → nth out i < 1000000000 → Pln t (nth l i) (nth out i)
theorem edA_at {E : List (List Int)} {k : Nat} {c : Int} (hk : k < E.length) : nth (edA E c) k = nth (nth E k) c := by
  unfold edA
  rw [nth_eq (by simpa using hk), nth_eq hk, List.getElem_map]
theorem CsP.s {t : Tsk} {l : List (List Int)} {E : List (List Int)} {x : List Int × Bool} {k : Nat} (hV : TskV t) (hl : ∀ y, y ∈ l → StP t y) (hE : ∀ e, e ∈ E → EdP t l e) (hk : k < E.length) (h : CsP t l x.1) : CsP t l (psS E x k).1 := by
  unfold psS
  split
  · rename_i hc
    obtain ⟨i, j, o, hi, hj, ho, hcan, hw, he⟩ := hE (nth E k) (nth_mem (by omega) (by omega))
    rw [edA_at hk, edA_at hk, edA_at hk, he] at hc
    rw [edA_at hk, edA_at hk, edA_at hk, he]
    have e0 : nth [(i : Int), (j : Int), (nth t.ops o).cost] 0 = i := rfl
    have e1 : nth [(i : Int), (j : Int), (nth t.ops o).cost] 1 = j := rfl
    have e2 : nth [(i : Int), (j : Int), (nth t.ops o).cost] 2 = (nth t.ops o).cost := rfl
    rw [e0, e1, e2] at hc ⊢
    have hco := (hV.op o ho).2
    have hrj := h.rg j hj
    have hri := h.rg i hi
    have hst : nth l j = upS (nth l i) (nth t.ops o).add (nth t.ops o).del := by
      have hli := hl (nth l i) (nth_mem (by omega) (by omega))
      rw [← af_up hV hli ho]
      exact wrd_inj (hl (nth l j) (nth_mem (by omega) (by omega))) (af_st hV) hw
    have hat : ∀ m : Nat, m < l.length → nth (x.1.set (i : Int).toNat (nth x.1 j + (nth t.ops o).cost)) m = if m = i then nth x.1 j + (nth t.ops o).cost else nth x.1 m := fun m hm => by
      rw [nth_eq (by rw [List.length_set, h.len]; exact hm), List.getElem_set]
      simp only [Int.toNat_natCast]
      by_cases hmi : m = i
      · subst hmi; simp
      · rw [if_neg (fun h => hmi h.symm), if_neg hmi]; exact (nth_eq (by rw [h.len]; exact hm)).symm
    refine ⟨by rw [List.length_set, h.len], fun m hm => ?_, fun m hm hlt => ?_⟩
    · show 0 ≤ nth (x.1.set _ _) m ∧ nth (x.1.set _ _) m ≤ _
      rw [hat m hm]
      split
      · omega
      · exact h.rg m hm
    · have hlt : nth (x.1.set (i : Int).toNat (nth x.1 j + (nth t.ops o).cost)) m < 1000000000 := hlt
      show Pln t (nth l m) (nth (x.1.set _ _) m)
      rw [hat m hm] at hlt ⊢
      split
      · rename_i hmi
        subst hmi
        rw [Int.add_comm]
        exact .cons ho hcan (hst ▸ h.pl j hj hc.1)
      · rename_i hmi
        rw [if_neg hmi] at hlt
        exact h.pl m hm hlt
  · exact h
theorem CsP.f {t : Tsk} {l : List (List Int)} {E : List (List Int)} {out : List Int} (hV : TskV t) (hl : ∀ y, y ∈ l → StP t y) (hE : ∀ e, e ∈ E → EdP t l e) (h : CsP t l out) : ∀ {k : Nat}, k ≤ E.length → CsP t l (psF E out k).1
  | 0, _ => h
  | k + 1, hk => (h.f hV hl hE (k := k) (by omega)).s hV hl hE (by omega)
theorem CsP.r {t : Tsk} {l : List (List Int)} {E : List (List Int)} {out o : List Int} (hV : TskV t) (hl : ∀ y, y ∈ l → StP t y) (hE : ∀ e, e ∈ E → EdP t l e) (h : CsP t l out) (hr : CsR E out o) : CsP t l o := by
  induction hr with
  | done _ => exact h.f hV hl hE (Nat.le_refl _)
  | step _ _ ih => exact ih (h.f hV hl hE (Nat.le_refl _))
end Go.Eng
end

section
/- The passes end; the first costs. -/

namespace Go.Eng
end Go.Eng
end

section
/- The first costs. -/

namespace Go.Eng
end Go.Eng
end

section
/- The reference's costs: what its walk needs; the law of the bound. -/

namespace Go.Eng
section
variable {t : Tsk} {l : List (List Int)} {i o k : Nat}
theorem CsP.at {out : List Int} (h : CsP t l out) {n : Int} (h0 : 0 ≤ n) (h1 : n < l.length) : 0 ≤ nth out n ∧ nth out n ≤ 1000000000 := by
  obtain ⟨m, rfl⟩ := Int.eq_ofNat_of_zero_le h0
  exact h.rg m (by omega)
theorem CsR.inv {E : List (List Int)} {out w : List Int} (h : CsR E out w) : ((psF E out E.length).2 = true → CsR E (psF E out E.length).1 w) ∧ ((psF E out E.length).2 = false → (psF E out E.length).1 = w) := by
  cases h with
  | done h => exact ⟨fun h2 => (by rw [h] at h2; cases h2), fun _ => rfl⟩
  | step h hr => exact ⟨fun _ => hr, fun h2 => (by rw [h] at h2; cases h2)⟩
/-! ### the best -/
end
end Go.Eng
end

section
/- Elimination without fractions: what it computes, by determinants. -/

namespace Go.Eng
abbrev Mx := List (List Int)
def ce (w : Mx) (i j : Int) : Int := nth (nth w i) j
def swp {α : Type} [Inhabited α] (l : List α) (a c : Nat) : List α := (l.set a (nth l c)).set c (nth l a)
def pvt (w : Mx) (c : Nat) : Option Nat := (List.range w.length).find? fun i => decide (c ≤ i ∧ ce w (i : Nat) (c : Nat) ≠ 0)
/-- Row i, of which k elements are new. -/
def elR (w : Mx) (c : Nat) (last : Int) (i k : Nat) : List Int := (List.range (w.length + 1)).map fun (j : Nat) => if j < k then (ce w i j * ce w c c - ce w i c * ce w c j).tdiv last else ce w i j
/-- k rows are done. -/
def elI (w : Mx) (c : Nat) (last : Int) (k : Nat) : Mx := (List.range w.length).map fun (i : Nat) => if i < k ∧ i ≠ c then elR w c last i (w.length + 1) else nth w i
def gaS (x : Mx × Int) (c : Nat) : Option (Mx × Int) := match pvt x.1 c with
  | none => none
  | some a => some (elI (swp x.1 a c) c x.2 x.1.length, ce (swp x.1 a c) c c)
def gaK (m : Mx) : Nat → Option (Mx × Int)
  | 0 => some (m, 1)
  | c + 1 => (gaK m c).bind fun x => gaS x c
def gaO (x : Mx × Int) (k : Nat) : List Int := (List.range k).map fun (i : Nat) => if x.2 < 0 then -(ce x.1 i x.1.length) else ce x.1 i x.1.length
def gaF (m : Mx) : Option (List Int × Int) := (gaK m m.length).map fun x => (gaO x m.length, if x.2 < 0 then -x.2 else x.2)
theorem pvt_some {w : Mx} {c a : Nat} (h : pvt w c = some a) : a < w.length ∧ c ≤ a ∧ ce w a c ≠ 0 ∧ ∀ i : Nat, c ≤ i → i < a → ce w i c = 0 := by
  unfold pvt at h
  rw [List.find?_range_eq_some] at h
  obtain ⟨h1, h2, h3⟩ := h
  have h1 := of_decide_eq_true h1
  refine ⟨List.mem_range.1 h2, h1.1, h1.2, fun i hi hia => ?_⟩
  have := h3 i hia
  simp only [Bool.not_eq_true', decide_eq_false_iff_not, not_and, Decidable.not_not] at this
  exact this hi
theorem pvt_none {w : Mx} {c : Nat} (h : pvt w c = none) : ∀ i : Nat, c ≤ i → i < w.length → ce w i c = 0 := fun i hi hl => by
  unfold pvt at h
  rw [List.find?_range_eq_none] at h
  have := h i hl
  simp only [Bool.not_eq_true', decide_eq_false_iff_not, not_and, Decidable.not_not] at this
  exact this hi
theorem pvt_at {w : Mx} {c a : Nat} (ha : a < w.length) (hc : c ≤ a) (h1 : ce w a c ≠ 0) (h0 : ∀ i : Nat, c ≤ i → i < a → ce w i c = 0) : pvt w c = some a := by
  unfold pvt
  rw [List.find?_range_eq_some]
  refine ⟨decide_eq_true ⟨hc, h1⟩, List.mem_range.2 ha, fun j hj => ?_⟩
  simp only [Bool.not_eq_true', decide_eq_false_iff_not, not_and, Decidable.not_not]
  exact fun h => h0 j h hj
theorem pvt_no {w : Mx} {c : Nat} (h0 : ∀ i : Nat, c ≤ i → i < w.length → ce w i c = 0) : pvt w c = none := by
  unfold pvt
  rw [List.find?_range_eq_none]
  intro j hj
  simp only [Bool.not_eq_true', decide_eq_false_iff_not, not_and, Decidable.not_not]
  exact fun h => h0 j h hj
theorem swp_len {α : Type} [Inhabited α] {l : List α} {a c : Nat} : (swp l a c).length = l.length := by simp [swp]
theorem swp_at {α : Type} [Inhabited α] {l : List α} {a c i : Nat} (ha : a < l.length) (hc : c < l.length) (hi : i < l.length) : nth (swp l a c) i = nth l ((if i = c then a else if i = a then c else i : Nat) : Int) := by
  unfold swp
  rw [nth_set (by omega) (by rw [List.length_set]; omega), nth_set (by omega) (by omega)]
  simp only [Int.toNat_natCast]
  split
  · rfl
  · split <;> rfl
theorem elI_len {w : Mx} {c k : Nat} {last : Int} : (elI w c last k).length = w.length := by simp [elI]
theorem elI_at {w : Mx} {c k i : Nat} {last : Int} (hi : i < w.length) : nth (elI w c last k) i = if i < k ∧ i ≠ c then elR w c last i (w.length + 1) else nth w i := by
  unfold elI; rw [nth_rangeMap hi]
theorem elR_len {w : Mx} {c i k : Nat} {last : Int} : (elR w c last i k).length = w.length + 1 := by simp [elR]
theorem elR_at {w : Mx} {c i k j : Nat} {last : Int} (hj : j < w.length + 1) : nth (elR w c last i k) j = if j < k then (ce w i j * ce w c c - ce w i c * ce w c j).tdiv last else ce w i j := by
  unfold elR; rw [nth_rangeMap hj]
theorem sm_perm {n : Nat} {π σ : Nat → Nat} (h1 : ∀ i, i < n → π i < n ∧ σ (π i) = i) (h2 : ∀ i, i < n → σ i < n ∧ π (σ i) = i) {f : Nat → Int} : sm n (fun i => f (π i)) = sm n f := by
  have e1 : sm n (fun i => f (π i)) = sm n fun i => sm n fun k => if k = π i then f k else 0 := sm_congr fun i hi => by
    rw [sm_one (h1 i hi).1 (fun k _ hk => if_neg hk), if_pos rfl]
  rw [e1, sm_swap]
  refine sm_congr fun k hk => ?_
  rw [sm_one (i0 := σ k) (h2 k hk).1 (fun i hi hik => if_neg (fun e => hik (by rw [e]; exact ((h1 i hi).2).symm))), if_pos (h2 k hk).2.symm]
/-- The system: n rows of n + 1 numbers -1, 0, 1. -/
structure SqP (m : Mx) : Prop where
  n6 : m.length ≤ 6
  w : ∀ i : Nat, i < m.length → (nth m i).length = m.length + 1
  e : ∀ i : Nat, i < m.length → ∀ j : Nat, j < m.length + 1 → -1 ≤ ce m i j ∧ ce m i j ≤ 1
def Ac (m : Mx) (j : Nat) : Vc := fun q => ce m q j
/-- What holds of a system of which c columns are done. -/
structure GI (m : Mx) (c : Nat) (x : Mx × Int) (π σ : Nat → Nat) (B : Nat → Vc) : Prop where
  l : x.1.length = m.length
  w : ∀ i : Nat, i < m.length → (nth x.1 i).length = m.length + 1
  p1 : ∀ i, i < m.length → π i < m.length ∧ σ (π i) = i
  p2 : ∀ i, i < m.length → σ i < m.length ∧ π (σ i) = i
  d : x.2 = Dm m.length B ∧ x.2 ≠ 0
  e : ∀ i : Nat, i < m.length → ∀ j : Nat, j < m.length + 1 → ce x.1 i j = Dm m.length (up B (π i) (Ac m j))
  b : ∀ k, k < c → B (π k) = Ac m k
  s : ∀ k, k < m.length → (∃ j, j < m.length + 1 ∧ B k = Ac m j) ∨ B k = un k
theorem GI.new {m : Mx} (h : SqP m) : GI m 0 (m, 1) id id un := {
  l := rfl
  w := h.w
  p1 := fun i hi => ⟨hi, rfl⟩
  p2 := fun i hi => ⟨hi, rfl⟩
  d := ⟨Dm_un.symm, by show (1 : Int) ≠ 0; decide⟩
  e := fun i hi j hj => by rw [id, Dm_un_up hi]; rfl
  b := fun k hk => by omega
  s := fun k _ => .inr rfl }
def ones : Nat → Nat := fun _ => 1
theorem ones_le {n : Nat} (hn : n ≤ 6) : bdD ones (List.range n) ≤ 720 := by
  have : n = 0 ∨ n = 1 ∨ n = 2 ∨ n = 3 ∨ n = 4 ∨ n = 5 ∨ n = 6 := by omega
  rcases this with rfl | rfl | rfl | rfl | rfl | rfl | rfl <;> decide
theorem Ac_le {m : Mx} (h : SqP m) {j q : Nat} (hj : j < m.length + 1) (hq : q < m.length) : (Ac m j q).natAbs ≤ 1 := by
  have := h.e q hq j hj
  unfold Ac; omega
theorem GI.col {m : Mx} {c : Nat} {x : Mx × Int} {π σ : Nat → Nat} {B : Nat → Vc} (h : SqP m) (hg : GI m c x π σ B) : ∀ k, k < m.length → ∀ q, q < m.length → (B k q).natAbs ≤ ones q := fun k hk q hq => by
  rcases hg.s k hk with ⟨j, hj, e⟩ | e
  · rw [e]; exact Ac_le h hj hq
  · rw [e]; unfold un ones; split <;> omega
theorem GI.small {m : Mx} {c : Nat} {x : Mx × Int} {π σ : Nat → Nat} {B : Nat → Vc} (h : SqP m) (hg : GI m c x π σ B) : (-720 ≤ x.2 ∧ x.2 ≤ 720) ∧ ∀ i : Nat, i < m.length → ∀ j : Nat, j < m.length + 1 → -720 ≤ ce x.1 i j ∧ ce x.1 i j ≤ 720 := by
  have hn := ones_le h.n6
  refine ⟨?_, fun i hi j hj => ?_⟩
  · have := Dm_le (hg.col h)
    rw [← hg.d.1] at this; omega
  · have := Dm_le (M := m.length) (B := up B (π i) (Ac m j)) (b := ones) fun k hk q hq => by
      by_cases hki : k = π i
      · subst hki; rw [up_at]; exact Ac_le h hj hq
      · rw [up_ne hki]; exact hg.col h k hk q hq
    rw [← hg.e i hi j hj] at this; omega
/-- The rows a and c change their places. -/
def tw (a c i : Nat) : Nat := if i = c then a else if i = a then c else i
theorem tw_tw {a c i : Nat} : tw a c (tw a c i) = i := by
  unfold tw
  by_cases h1 : i = c
  · subst h1; simp
  · by_cases h2 : i = a
    · subst h2; simp [h1]
    · simp [h1, h2]
theorem tw_lt {a c i n : Nat} (ha : a < n) (hc : c < n) (hi : i < n) : tw a c i < n := by unfold tw; split; exact ha; split; exact hc; exact hi
theorem GI.swap {m : Mx} {c a : Nat} {x : Mx × Int} {π σ : Nat → Nat} {B : Nat → Vc} (hg : GI m c x π σ B) (hc : c < m.length) (ha : a < m.length) (hca : c ≤ a) : GI m c (swp x.1 a c, x.2) (fun i => π (tw a c i)) (fun i => tw a c (σ i)) B := by
  have hr : ∀ i : Nat, i < m.length → nth (swp x.1 a c) i = nth x.1 (tw a c i) := fun i hi => by
    rw [swp_at (by rw [hg.l]; exact ha) (by rw [hg.l]; exact hc) (by rw [hg.l]; exact hi)]; rfl
  exact {
    l := by rw [swp_len]; exact hg.l
    w := fun i hi => by rw [hr i hi]; exact hg.w _ (tw_lt ha hc hi)
    p1 := fun i hi => ⟨(hg.p1 _ (tw_lt ha hc hi)).1, by rw [(hg.p1 _ (tw_lt ha hc hi)).2, tw_tw]⟩
    p2 := fun i hi => ⟨tw_lt ha hc (hg.p2 i hi).1, by rw [tw_tw, (hg.p2 i hi).2]⟩
    d := hg.d
    e := fun i hi j hj => by
      have := hg.e _ (tw_lt ha hc hi) j hj
      unfold ce at this ⊢
      rw [hr i hi]; exact this
    b := fun k hk => by
      have : tw a c k = k := by unfold tw; rw [if_neg (by omega), if_neg (by omega)]
      rw [this]; exact hg.b k hk
    s := hg.s }
theorem GI.elim {m : Mx} {c : Nat} {x : Mx × Int} {π σ : Nat → Nat} {B : Nat → Vc} (hg : GI m c x π σ B) (hc : c < m.length) (h0 : ce x.1 c c ≠ 0) : GI m (c + 1) (elI x.1 c x.2 x.1.length, ce x.1 c c) π σ (up B (π c) (Ac m c)) := by
  have hpc := hg.p1 c hc
  have hinj : ∀ i, i < m.length → i ≠ c → π i ≠ π c := fun i hi hne e => hne (by rw [← (hg.p1 i hi).2, e, hpc.2])
  have hrow : ∀ i : Nat, i < m.length → nth (elI x.1 c x.2 x.1.length) i = if i ≠ c then elR x.1 c x.2 i (x.1.length + 1) else nth x.1 i := fun i hi => by
    rw [elI_at (by rw [hg.l]; exact hi)]
    by_cases hic : i = c
    · rw [if_neg (fun h => h.2 hic), if_neg (fun h => h hic)]
    · rw [if_pos ⟨by rw [hg.l]; exact hi, hic⟩, if_pos hic]
  refine ⟨by rw [elI_len]; exact hg.l, fun i hi => ?_, hg.p1, hg.p2, ⟨?_, h0⟩, fun i hi j hj => ?_, fun k hk => ?_, fun k hk => ?_⟩
  · show (nth (elI x.1 c x.2 x.1.length) i).length = _
    rw [hrow i hi]
    split
    · rw [elR_len, hg.l]
    · exact hg.w i hi
  · show ce x.1 c c = _
    rw [hg.e c hc c (by omega)]
  · show ce (elI x.1 c x.2 x.1.length) i j = _
    have e1 : ce (elI x.1 c x.2 x.1.length) i j = nth (nth (elI x.1 c x.2 x.1.length) i) j := rfl
    rw [e1, hrow i hi]
    by_cases hic : i = c
    · subst hic
      rw [if_neg (fun h => h rfl), up_up]
      exact hg.e i hi j hj
    · rw [if_pos hic, elR_at (by rw [hg.l]; exact hj), if_pos (by rw [hg.l]; exact hj), hg.e i hi j hj, hg.e c hc c (by omega), hg.e i hi c (by omega), hg.e c hc j hj]
      have hpl := pluecker (M := m.length) (B := B) (x := Ac m c) (y := Ac m j) (r := π c) (i := π i) hpc.1 (hg.p1 i hi).1 (hinj i hi hic)
      rw [← hg.d.1] at hpl
      rw [← hpl, Int.mul_tdiv_cancel_left _ hg.d.2]
  · by_cases hkc : k = c
    · subst hkc; rw [up_at]
    · have hkl : k < m.length := by omega
      rw [up_ne (hinj k hkl hkc)]; exact hg.b k (by omega)
  · by_cases hkr : k = π c
    · subst hkr; exact .inl ⟨c, by omega, up_at⟩
    · rw [up_ne hkr]; exact hg.s k hk
theorem ga_inv {m : Mx} (h : SqP m) : ∀ {c : Nat} {x : Mx × Int}, c ≤ m.length → gaK m c = some x → ∃ π σ B, GI m c x π σ B
  | 0, x, _, hx => by
    cases hx; exact ⟨_, _, _, .new h⟩
  | c + 1, x, hc, hx => by
    unfold gaK at hx
    cases hk : gaK m c with
    | none => rw [hk] at hx; cases hx
    | some y =>
      rw [hk] at hx
      obtain ⟨π, σ, B, hg⟩ := ga_inv h (c := c) (x := y) (by omega) hk
      have hx : gaS y c = some x := hx
      unfold gaS at hx
      cases hp : pvt y.1 c with
      | none => rw [hp] at hx; cases hx
      | some a =>
        rw [hp] at hx
        obtain ⟨p1, p2, p3, _⟩ := pvt_some hp
        have hs := hg.swap (a := a) (by omega) (by rw [← hg.l]; exact p1) p2
        have e0 : ce (swp y.1 a c) c c = ce y.1 a c := by
          unfold ce; rw [swp_at p1 (by rw [hg.l]; omega) (by rw [hg.l]; omega), if_pos rfl]
        have he := hs.elim (by omega) (by show ce (swp y.1 a c) c c ≠ 0; rw [e0]; exact p3)
        cases hx
        simp only [swp_len] at he
        exact ⟨_, _, _, he⟩
theorem ce_out {x : Mx × Int} {k i : Nat} (hi : i < k) : nth (gaO x k) i = if x.2 < 0 then -(ce x.1 i x.1.length) else ce x.1 i x.1.length := by
  unfold gaO; rw [nth_rangeMap hi]
/-- What is found solves the system. -/
theorem ga_some {m : Mx} (h : SqP m) {o : List Int} {d : Int} (hf : gaF m = some (o, d)) : o.length = m.length ∧ (0 < d ∧ d ≤ 720) ∧ (∀ i : Nat, i < m.length → -720 ≤ nth o i ∧ nth o i ≤ 720) ∧ ∀ q : Nat, q < m.length → sm m.length (fun i => ce m q i * nth o i) = ce m q m.length * d := by
  unfold gaF at hf
  cases hk : gaK m m.length with
  | none => rw [hk] at hf; cases hf
  | some x =>
    rw [hk] at hf
    have hf : (gaO x m.length, if x.2 < 0 then -x.2 else x.2) = (o, d) := by simpa using hf
    cases hf
    obtain ⟨π, σ, B, hg⟩ := ga_inv h (Nat.le_refl _) hk
    obtain ⟨s1, s2⟩ := hg.small h
    have hd := hg.d.2
    refine ⟨by simp [gaO], ?_, fun i hi => ?_, fun q hq => ?_⟩
    · split <;> omega
    · have := s2 i hi m.length (by omega)
      rw [ce_out hi, hg.l]
      split <;> omega
    · have hcr := Dm_cramer (M := m.length) (B := B) (q := q) hq (v := Ac m m.length)
      rw [← sm_perm hg.p1 hg.p2] at hcr
      have hs : sm m.length (fun i => ce m q i * ce x.1 i x.1.length) = ce m q m.length * x.2 := by
        rw [hg.d.1]
        refine Eq.trans (sm_congr fun i hi => ?_) hcr.symm
        rw [hg.b i hi, hg.l, hg.e i hi m.length (by omega)]; rfl
      by_cases hn : x.2 < 0
      · rw [if_pos hn, Int.mul_neg, ← hs, ← sm_neg]
        exact sm_congr fun i hi => by rw [ce_out hi, if_pos hn, Int.mul_neg]
      · rw [if_neg hn, ← hs]
        exact sm_congr fun i hi => by rw [ce_out hi, if_neg hn]
/-- A system with one solution at most is solved. -/
theorem ga_ends {m : Mx} (h : SqP m) (hu : ∀ z : Nat → Int, (∀ q : Nat, q < m.length → sm m.length (fun i => ce m q i * z i) = 0) → ∀ i, i < m.length → z i = 0) : ∃ o d, gaF m = some (o, d) := by
  have key : ∀ c : Nat, c ≤ m.length → ∃ x, gaK m c = some x := by
    intro c
    induction c with
    | zero => exact fun _ => ⟨_, rfl⟩
    | succ c ih =>
      intro hc
      obtain ⟨x, hx⟩ := ih (by omega)
      obtain ⟨π, σ, B, hg⟩ := ga_inv h (by omega) hx
      unfold gaK
      rw [hx]
      show ∃ y, gaS x c = some y
      unfold gaS
      cases hp : pvt x.1 c with
      | some a => exact ⟨_, rfl⟩
      | none =>
        exfalso
        have h0 := pvt_none hp
        have hz := hu (fun i => if i < c then ce x.1 i c else if i = c then -x.2 else 0) (fun q hq => ?_) c (by omega)
        · simp only [Nat.lt_irrefl, if_false, if_true] at hz
          exact hg.d.2 (by omega)
        · have hcr := Dm_cramer (M := m.length) (B := B) (q := q) hq (v := Ac m c)
          rw [← sm_perm hg.p1 hg.p2] at hcr
          have hl : m.length = c + (1 + (m.length - (c + 1))) := by omega
          have hs : sm c (fun i => ce m q i * ce x.1 i c) = ce m q c * x.2 := by
            rw [hg.d.1]
            refine Eq.trans ?_ hcr.symm
            rw [hl, sm_split, ← hl]
            rw [sm_zero (n := 1 + (m.length - (c + 1))) (fun i hi => by
              have hil : c + i < m.length := by omega
              rw [← hg.e (c + i) hil c (by omega), h0 (c + i) (by omega) (by rw [hg.l]; exact hil), Int.mul_zero]), Int.add_zero]
            exact sm_congr fun i hi => by
              rw [hg.b i hi, hg.e i (by omega) c (by omega)]; rfl
          rw [hl, sm_split, sm_split]
          rw [sm_zero (n := m.length - (c + 1)) (fun i hi => by rw [if_neg (by omega), if_neg (by omega), Int.mul_zero])]
          rw [sm_congr (n := c) (g := fun i => ce m q i * ce x.1 i c) (fun i hi => by rw [if_pos hi]), hs]
          simp only [sm, Nat.add_zero, Nat.lt_irrefl, if_false, if_true, Int.mul_neg]
          omega
  obtain ⟨x, hx⟩ := key m.length (Nat.le_refl _)
  exact ⟨_, _, by unfold gaF; rw [hx]; rfl⟩
end Go.Eng
end

section
/- The corners of a region: plain part. -/

namespace Go.Eng
def pdN (n : Nat) (a x : List Int) : Int := sm n fun j => nth a j * nth x j
def alM (R : Mx) (b : List Int) (n : Nat) : Mx := ((List.range R.length).map fun (i : Nat) => nth R i ++ [nth b i]) ++ (List.range n).map fun (j : Nat) => (List.replicate (n + 1) (0 : Int)).set j (-1)
def slT (A F : Mx) (n w : Nat) : Nat → Mx
  | 0 => F
  | k + 1 => if (slT A F n w k).length ≤ n ∧ bitI w k = true then slT A F n w k ++ [nth A k] else slT A F n w k
def okC (A : Mx) (n : Nat) (x : List Int) (d : Int) : Nat → Bool
  | 0 => true
  | k + 1 => okC A n x d k && decide (pdN n (nth A k) x ≤ ce A k n * d)
def coW (A F : Mx) (n w : Nat) : Option (List Int × Int) := if (slT A F n w A.length).length = n then (gaF (slT A F n w A.length)).bind fun c => if okC A n c.1 c.2 A.length = true then some c else none else none
def coT (A F : Mx) (n : Nat) : Nat → List (List Int × Int)
  | 0 => []
  | w + 1 => coT A F n w ++ (coW A F n w).toList
def coF (A F : Mx) (n : Nat) : List (List Int × Int) := coT A F n (2 ^ A.length)
structure AlP (A F : Mx) (n : Nat) : Prop where
  n6 : n ≤ 6
  l : A.length ≤ 12
  f : F.length ≤ 1
  r : ∀ r, r ∈ A ∨ r ∈ F → r.length = n + 1 ∧ ∀ x, x ∈ r → -1 ≤ x ∧ x ≤ 1
theorem slT_mem {A F : Mx} {n w : Nat} : ∀ {k : Nat}, k ≤ A.length → ∀ r, r ∈ slT A F n w k → r ∈ F ∨ ∃ i : Nat, i < k ∧ bitI w i = true ∧ r = nth A i
  | 0, _, r, h => .inl h
  | k + 1, hk, r, h => by
    simp only [slT] at h
    have go : r ∈ slT A F n w k → r ∈ F ∨ ∃ i : Nat, i < k + 1 ∧ bitI w i = true ∧ r = nth A i := fun h => by
      rcases slT_mem (k := k) (by omega) r h with h | ⟨i, h1, h2⟩
      · exact .inl h
      · exact .inr ⟨i, by omega, h2⟩
    split at h
    · rename_i hc
      rcases List.mem_append.1 h with h | h
      · exact go h
      · rw [List.mem_singleton] at h
        exact .inr ⟨k, by omega, hc.2, h⟩
    · exact go h
theorem slT_in {A F : Mx} {n w k : Nat} (hk : k ≤ A.length) {r : List Int} (h : r ∈ slT A F n w k) : r ∈ A ∨ r ∈ F := by
  rcases slT_mem hk r h with h | ⟨i, h1, _, rfl⟩
  · exact .inr h
  · exact .inl (nth_mem (by omega) (by omega))
theorem slT_len {A F : Mx} {n w : Nat} : ∀ {k : Nat}, (slT A F n w k).length ≤ F.length + k
  | 0 => Nat.le_refl _
  | k + 1 => by
    have ih := slT_len (A := A) (F := F) (n := n) (w := w) (k := k)
    simp only [slT]
    split
    · rw [List.length_append]; simp; omega
    · omega
theorem slT_t {A F : Mx} {n w k : Nat} (h : (slT A F n w k).length ≤ n) (hb : bitI w k = true) : slT A F n w (k + 1) = slT A F n w k ++ [nth A k] := by simp only [slT]; rw [if_pos ⟨h, hb⟩]
theorem slT_f {A F : Mx} {n w k : Nat} (h : bitI w k = false) : slT A F n w (k + 1) = slT A F n w k := by simp only [slT]; rw [if_neg (fun hh => by rw [h] at hh; cases hh.2)]
theorem slT_over {A F : Mx} {n w k : Nat} (h : ¬ (slT A F n w k).length ≤ n) : ∀ d : Nat, slT A F n w (k + d) = slT A F n w k
  | 0 => rfl
  | d + 1 => by
    have ih := slT_over h d
    show slT A F n w ((k + d) + 1) = _
    simp only [slT]
    rw [ih, if_neg (fun hh => h hh.1)]
theorem AlP.sq {A F : Mx} {n w : Nat} (h : AlP A F n) (hl : (slT A F n w A.length).length = n) : SqP (slT A F n w A.length) := by
  have hr : ∀ i : Nat, i < (slT A F n w A.length).length → _ := fun i hi => h.r _ (slT_in (Nat.le_refl _) (nth_mem (l := slT A F n w A.length) (n := (i : Int)) (by omega) (by omega)))
  refine ⟨by rw [hl]; exact h.n6, fun i hi => by rw [(hr i hi).1, hl], fun i hi j hj => ?_⟩
  have := hr i hi
  exact this.2 _ (nth_mem (l := nth (slT A F n w A.length) i) (n := (j : Int)) (by omega) (by rw [this.1, hl.symm]; omega))
theorem okC_all {A : Mx} {n : Nat} {x : List Int} {d : Int} : ∀ {k : Nat}, okC A n x d k = true ↔ ∀ i : Nat, i < k → pdN n (nth A i) x ≤ ce A i n * d
  | 0 => ⟨fun _ i hi => by omega, fun _ => rfl⟩
  | k + 1 => by
    have ih := okC_all (A := A) (n := n) (x := x) (d := d) (k := k)
    simp only [okC, Bool.and_eq_true, decide_eq_true_eq, ih]
    constructor
    · rintro ⟨h1, h2⟩ i hi
      by_cases hik : i = k
      · subst hik; exact h2
      · exact h1 i (by omega)
    · exact fun h => ⟨fun i hi => h i (by omega), h k (by omega)⟩
/-- What a corner is. -/
structure Cor (A : Mx) (n : Nat) (c : List Int × Int) : Prop where
  l : c.1.length = n
  d : 0 < c.2 ∧ c.2 ≤ 720
  x : ∀ i : Nat, i < n → -720 ≤ nth c.1 i ∧ nth c.1 i ≤ 720
  a : ∀ i : Nat, i < A.length → pdN n (nth A i) c.1 ≤ ce A i n * c.2
theorem coW_some {A F : Mx} {n w : Nat} (h : AlP A F n) {c : List Int × Int} (hc : coW A F n w = some c) : Cor A n c := by
  unfold coW at hc
  split at hc
  · rename_i hl
    cases hg : gaF (slT A F n w A.length) with
    | none => rw [hg] at hc; cases hc
    | some o =>
      rw [hg] at hc
      have hc : (if okC A n o.1 o.2 A.length = true then some o else none) = some c := hc
      split at hc
      · rename_i hok
        cases hc
        obtain ⟨h1, h2, h3, _⟩ := ga_some (h.sq hl) hg
        rw [hl] at h1 h3
        exact ⟨h1, h2, h3, okC_all.1 hok⟩
      · cases hc
  · cases hc
theorem coT_mem {A F : Mx} {n : Nat} : ∀ {k : Nat} {c : List Int × Int}, c ∈ coT A F n k ↔ ∃ w, w < k ∧ coW A F n w = some c
  | 0, c => by simp [coT]
  | k + 1, c => by
    have ih := coT_mem (A := A) (F := F) (n := n) (k := k) (c := c)
    simp only [coT, List.mem_append, ih, Option.mem_toList]
    constructor
    · rintro (⟨w, h1, h2⟩ | h)
      · exact ⟨w, by omega, h2⟩
      · exact ⟨k, by omega, h⟩
    · rintro ⟨w, h1, h2⟩
      by_cases hwk : w = k
      · subst hwk; exact .inr h2
      · exact .inl ⟨w, by omega, h2⟩
theorem coT_len {A F : Mx} {n : Nat} : ∀ {k : Nat}, (coT A F n k).length ≤ k
  | 0 => by simp [coT]
  | k + 1 => by
    have ih := coT_len (A := A) (F := F) (n := n) (k := k)
    simp only [coT, List.length_append]
    cases coW A F n k <;> simp <;> omega
theorem co_cor {A F : Mx} {n k : Nat} (h : AlP A F n) {c : List Int × Int} (hc : c ∈ coT A F n k) : Cor A n c := by
  obtain ⟨w, _, hw⟩ := coT_mem.1 hc
  exact coW_some h hw
/-! ### the inequalities of a program -/
section
variable {R : Mx} {b : List Int} {n : Nat}
theorem alM_len : (alM R b n).length = R.length + n := by simp [alM]
theorem alM_row {i : Nat} (hi : i < R.length) : nth (alM R b n) i = nth R i ++ [nth b i] := by
  unfold alM
  rw [nth_eq (by simp; omega), List.getElem_append_left (by simpa using hi)]
  simp
theorem alM_neg {j : Nat} (hj : j < n) : nth (alM R b n) ((R.length + j : Nat) : Int) = (List.replicate (n + 1) (0 : Int)).set j (-1) := by
  unfold alM
  rw [nth_eq (by simp; omega), List.getElem_append_right (by simp)]
  simp
theorem ce_row {i : Nat} (hi : i < R.length) (hw : (nth R i).length = n) : ce (alM R b n) i n = nth b i ∧ ∀ j : Nat, j < n → ce (alM R b n) i j = nth (nth R i) j := by
  unfold ce
  rw [alM_row hi]
  refine ⟨?_, fun j hj => ?_⟩
  · have := nth_app2 (s := nth R i) (x := nth b i)
    rw [hw] at this; exact this
  · exact nth_app1 (by omega)
theorem ce_neg {j : Nat} (hj : j < n) : ce (alM R b n) ((R.length + j : Nat) : Int) n = 0 ∧ ∀ k : Nat, k < n → ce (alM R b n) ((R.length + j : Nat) : Int) k = if k = j then -1 else 0 := by
  unfold ce
  rw [alM_neg hj]
  refine ⟨?_, fun k hk => ?_⟩
  · rw [nth_eq (by simp), List.getElem_set]
    rw [if_neg (by omega)]; simp
  · rw [nth_eq (by simp; omega), List.getElem_set]
    by_cases h : j = k
    · rw [if_pos h, if_pos h.symm]
    · rw [if_neg h, if_neg (fun e => h e.symm)]; simp
theorem pd_row {i : Nat} (hi : i < R.length) (hw : (nth R i).length = n) {x : Nat → Int} : sm n (fun j => ce (alM R b n) i j * x j) = sm n fun j => nth (nth R i) j * x j := sm_congr fun j hj => by rw [(ce_row (b := b) hi hw).2 j hj]
theorem pd_neg {j : Nat} (hj : j < n) {x : Nat → Int} : sm n (fun k => ce (alM R b n) ((R.length + j : Nat) : Int) k * x k) = -(x j) := by
  rw [sm_congr (g := fun k => if k = j then -(x j) else 0) (fun k hk => by
    rw [(ce_neg (R := R) (b := b) hj).2 k hk]
    by_cases h : k = j
    · subst h; rw [if_pos rfl, if_pos rfl]; omega
    · rw [if_neg h, if_neg h, Int.zero_mul]), sm_one hj (fun k _ hk => if_neg hk), if_pos rfl]
theorem al_p {F : Mx} (hn : n ≤ 6) (hR : R.length ≤ 6) (hw : ∀ i : Nat, i < R.length → (nth R i).length = n ∧ ∀ x, x ∈ nth R i → -1 ≤ x ∧ x ≤ 1) (hb : ∀ i : Nat, i < R.length → -1 ≤ nth b i ∧ nth b i ≤ 1)
    (hf : F.length ≤ 1) (hF : ∀ r, r ∈ F → r.length = n + 1 ∧ ∀ x, x ∈ r → -1 ≤ x ∧ x ≤ 1) : AlP (alM R b n) F n := by
  refine ⟨hn, by rw [alM_len]; omega, hf, fun r hr => hr.elim (fun hr => ?_) (hF r)⟩
  unfold alM at hr
  rcases List.mem_append.1 hr with hr | hr
  · obtain ⟨i, hi, rfl⟩ := List.mem_map.1 hr
    have hi := List.mem_range.1 hi
    obtain ⟨h1, h2⟩ := hw i hi
    refine ⟨by simp [h1], fun x hx => ?_⟩
    rcases List.mem_append.1 hx with hx | hx
    · exact h2 x hx
    · rw [List.mem_singleton] at hx; subst hx; exact hb i hi
  · obtain ⟨j, hj, rfl⟩ := List.mem_map.1 hr
    refine ⟨by simp, fun x hx => ?_⟩
    rcases List.mem_or_eq_of_mem_set hx with hx | hx
    · have := (List.mem_replicate.1 hx).2; omega
    · omega
end
/-- Corners of a program are points of it. -/
theorem cor_pt {p : LPr} (hp : LpC p) {c : List Int × Int} (h : Cor (alM p.rws p.bnd p.obj.length) p.obj.length c) : Pt p (fun j => nth c.1 j) c.2 := by
  refine ⟨h.d.1, fun j hj => ?_, fun i hi => ?_⟩
  · have h1 := h.a (p.rws.length + j) (by rw [alM_len]; omega)
    rw [(ce_neg hj).1] at h1
    have h2 := pd_neg (R := p.rws) (b := p.bnd) hj (x := fun j => nth c.1 j)
    have e : pdN p.obj.length (nth (alM p.rws p.bnd p.obj.length) ((p.rws.length + j : Nat) : Int)) c.1 = -(nth c.1 j) := h2
    rw [e] at h1
    show 0 ≤ nth c.1 j
    omega
  · have h1 := h.a i (by rw [alM_len]; omega)
    rw [(ce_row hi (hp.ok.w i hi)).1] at h1
    have h2 := pd_row (b := p.bnd) hi (hp.ok.w i hi) (x := fun j => nth c.1 j)
    have e : pdN p.obj.length (nth (alM p.rws p.bnd p.obj.length) i) c.1 = _ := h2
    rw [e] at h1
    exact h1
/-- A direction of a region has no negative elements. -/
theorem cor_nn {R : Mx} {b : List Int} {n : Nat} {c : List Int × Int} (h : Cor (alM R b n) n c) {j : Nat} (hj : j < n) : 0 ≤ nth c.1 j := by
  have h1 := h.a (R.length + j) (by rw [alM_len]; omega)
  rw [(ce_neg hj).1] at h1
  have h2 := pd_neg (R := R) (b := b) hj (x := fun j => nth c.1 j)
  have e : pdN n (nth (alM R b n) ((R.length + j : Nat) : Int)) c.1 = -(nth c.1 j) := h2
  rw [e] at h1
  omega
end Go.Eng
end

section
/- The best point is a corner. -/

namespace Go.Eng
section
variable {p : LPr} {t : Tb}
/-- The point of a tableau without the artificial variable; what is not in the basis is zero. -/
theorem base_pt2 (hp : LpC p) (hs : Same p t) (hm : MS p t) (hna : NoA p t) : ∃ x, Pt p x t.dn ∧ lval p x = cel t p.rws.length ((ntW p : Int) - 1) ∧ (∀ j : Nat, j < p.obj.length → (j : Int) ∉ t.bs → x j = 0) ∧
    ∀ i : Nat, i < p.rws.length → ((p.obj.length + i : Nat) : Int) ∉ t.bs → sm p.obj.length (fun j => nth (nth p.rws i) j * x j) = nth p.bnd i * t.dn := by
  have e4 : ((ntW p : Int) - 1) = ((p.obj.length + p.rws.length + 1 : Nat) : Int) := by unfold ntW; omega
  have hh := (hs _ _ dirE_0).2 (dir_hom hm.di (c := p.obj.length + p.rws.length + 1) (by unfold ntW; omega))
  obtain ⟨z, hz⟩ : ∃ z, z = dirZ p t (p.obj.length + p.rws.length + 1) := ⟨_, rfl⟩
  rw [← hz] at hh
  have hzn : ∀ j, j < p.obj.length + p.rws.length + 1 → z j ≤ 0 := fun j hj => by
    rw [hz]; unfold dirZ
    rw [if_neg (by omega)]
    have := sm_nonneg (n := p.rws.length) (f := fun i => -(if nth t.bs i = (j : Int) then -(cel t i ((p.obj.length + p.rws.length + 1 : Nat) : Int)) else 0)) fun i hi => by
      have := hm.pf i hi
      rw [e4] at this
      split <;> omega
    rw [sm_neg] at this; omega
  have hz0 : ∀ j, j < p.obj.length + p.rws.length + 1 → (j : Int) ∉ t.bs → z j = 0 := fun j hj hn => by
    rw [hz]; unfold dirZ
    rw [if_neg (by omega), sm_zero (fun i hi => if_neg (fun e => hn (by rw [← e]; exact nth_mem (by omega) (by rw [hm.di.bl]; omega))))]; rfl
  have hza : z (p.obj.length + p.rws.length) = 0 := by
    rw [hz]; unfold dirZ
    rw [if_neg (by omega), sm_zero (fun i hi => if_neg (by have := hna i hi; omega))]; rfl
  have hzl : z (p.obj.length + p.rws.length + 1) = t.dn := by
    rw [hz]; unfold dirZ
    rw [if_pos rfl, sm_zero (fun i hi => if_neg (by have := hm.di.br i hi; omega))]; omega
  refine ⟨fun j => -(z j), ⟨hm.di.dp, fun j hj => by have := hzn j (by omega); show 0 ≤ -(z j); omega, fun i hi => ?_⟩, ?_, fun j hj hn => ?_, fun i hi hn => ?_⟩
  · have h1 := hom_row hh hi (dirE_0 i hi)
    rw [hza, hzl] at h1
    have h2 := hzn (p.obj.length + i) (by omega)
    rw [sm_congr (g := fun j => -(nth (nth p.rws i) j * z j)) (fun j _ => by rw [Int.mul_neg]), sm_neg]
    omega
  · have h1 := hom_goal hh
    rw [dirE_1 (Nat.le_refl _)] at h1
    unfold lval
    rw [sm_congr (g := fun j => -(nth p.obj j * z j)) (fun j _ => by rw [Int.mul_neg]), sm_neg, e4]
    omega
  · show -(z j) = 0
    rw [hz0 j (by omega) hn]; rfl
  · have h1 := hom_row hh hi (dirE_0 i hi)
    rw [hza, hzl, hz0 _ (by omega) hn] at h1
    rw [sm_congr (g := fun j => -(nth (nth p.rws i) j * z j)) (fun j _ => by rw [Int.mul_neg]), sm_neg]
    omega
/-- The equations of what is not in the basis have one solution. -/
theorem nb_uniq (hs : Same p t) (hm : MS p t) (hna : NoA p t) {z : Nat → Int} (h1 : ∀ j : Nat, j < p.obj.length → (j : Int) ∉ t.bs → z j = 0)
    (h2 : ∀ i : Nat, i < p.rws.length → ((p.obj.length + i : Nat) : Int) ∉ t.bs → sm p.obj.length (fun j => nth (nth p.rws i) j * z j) = 0) : ∀ j, j < p.obj.length → z j = 0 := by
  obtain ⟨Z, hZ⟩ : ∃ Z : Nat → Int, Z = fun v => if v < p.obj.length then z v else if v < p.obj.length + p.rws.length then -(sm p.obj.length fun j => nth (nth p.rws ((v - p.obj.length : Nat) : Int)) j * z j) else 0 := ⟨_, rfl⟩
  obtain ⟨E, hE⟩ : ∃ E : Nat → Int, E = fun i => if i = p.rws.length then sm p.obj.length fun j => nth p.obj j * z j else 0 := ⟨_, rfl⟩
  have hZx : ∀ j, j < p.obj.length → Z j = z j := fun j hj => by rw [hZ]; exact if_pos hj
  have hZs : ∀ i, i < p.rws.length → Z (p.obj.length + i) = -(sm p.obj.length fun j => nth (nth p.rws i) j * z j) := fun i hi => by
    rw [hZ]; dsimp only
    rw [if_neg (by omega), if_pos (by omega), show p.obj.length + i - p.obj.length = i from by omega]
  have hZ0 : ∀ v, p.obj.length + p.rws.length ≤ v → Z v = 0 := fun v hv => by rw [hZ]; dsimp only; rw [if_neg (by omega), if_neg (by omega)]
  have hE0 : ∀ i, i < p.rws.length → E i = 0 := fun i hi => by rw [hE]; exact if_neg (by omega)
  have hh : Hom p (newTab p) Z E := by
    refine hom_of hE0 (fun i hi => ?_) ?_ ?_
    · rw [sm_congr (g := fun j => nth (nth p.rws i) j * z j) (fun j hj => by rw [hZx j hj]), hZs i hi, hZ0 _ (Nat.le_refl _), hZ0 _ (by omega)]
      omega
    · rw [hE]; dsimp only; rw [if_pos rfl]
      exact sm_congr fun j hj => by rw [hZx j hj]
    · rw [hE]; dsimp only; rw [if_neg (by omega), hZ0 _ (Nat.le_refl _)]; rfl
  have hnb : ∀ v : Nat, (v : Int) ∉ t.bs → Z v = 0 := fun v hv => by
    by_cases hv1 : v < p.obj.length
    · rw [hZx v hv1]; exact h1 v hv1 hv
    · by_cases hv2 : v < p.obj.length + p.rws.length
      · obtain ⟨i, rfl⟩ : ∃ i, v = p.obj.length + i := ⟨v - p.obj.length, by omega⟩
        rw [hZs i (by omega), h2 i (by omega) hv]; rfl
      · exact hZ0 v (by omega)
  have hb : ∀ i : Nat, i < p.rws.length → ∀ v : Nat, (v : Int) = nth t.bs i → Z v = 0 := fun i hi v hv => by
    have h := (hs Z E hE0).1 hh i (by omega)
    rw [hE0 i hi, Int.mul_zero, Int.zero_add] at h
    have hbr := hm.di.br i hi
    rw [sm_one (i0 := v) (by unfold ntW; omega) (fun u hu huv => ?_)] at h
    · have hu := hm.di.unit (i := i) (by omega) hi
      rw [if_pos rfl, ← hv] at hu
      rw [hu] at h
      have := hm.di.dp
      rcases Int.mul_eq_zero.1 h with h | h
      · omega
      · exact h
    · by_cases hm2 : (u : Int) ∈ t.bs
      · obtain ⟨k, hk, hke⟩ := List.getElem_of_mem hm2
        have hkm : k < p.rws.length := by rw [← hm.di.bl]; exact hk
        have hn : nth t.bs k = (u : Int) := by rw [nth_eq hk]; exact hke
        have hu := hm.di.unit (i := i) (by omega) hkm
        rw [if_neg (fun e => huv (by subst e; omega)), hn] at hu
        rw [hu, Int.zero_mul]
      · rw [hnb u hm2, Int.mul_zero]
  intro j hj
  by_cases hm2 : (j : Int) ∈ t.bs
  · obtain ⟨k, hk, hke⟩ := List.getElem_of_mem hm2
    have := hb k (by rw [← hm.di.bl]; exact hk) j (by rw [nth_eq hk]; exact hke.symm)
    rw [hZx j hj] at this; exact this
  · exact h1 j hj hm2
/-- As many are not in the basis as there are variables. -/
theorem nb_count (hm : MS p t) (hna : NoA p t) : (sm (p.obj.length + p.rws.length) fun v => if (v : Int) ∈ t.bs then 0 else 1) = p.obj.length := by
  have h1 : (sm (p.obj.length + p.rws.length) fun v => if (v : Int) ∈ t.bs then 1 else 0) = p.rws.length := by
    have e1 : (sm (p.obj.length + p.rws.length) fun v => if (v : Int) ∈ t.bs then 1 else 0) = sm (p.obj.length + p.rws.length) fun v => sm p.rws.length fun i => if (v : Int) = nth t.bs i then 1 else 0 := sm_congr fun v hv => by
      by_cases hvb : (v : Int) ∈ t.bs
      · obtain ⟨k, hk, hke⟩ := List.getElem_of_mem hvb
        have hkm : k < p.rws.length := by rw [← hm.di.bl]; exact hk
        have hn : nth t.bs k = (v : Int) := by rw [nth_eq hk]; exact hke
        rw [if_pos hvb, sm_one hkm (fun i hi hik => if_neg (fun e => hik (hm.di.inj hi hkm (e.symm.trans hn.symm)))), if_pos hn.symm]
      · rw [if_neg hvb, sm_zero (fun i hi => if_neg (fun e => hvb (by rw [e]; exact nth_mem (by omega) (by rw [hm.di.bl]; omega))))]
    rw [e1, sm_swap]
    have e2 : (sm p.rws.length fun i => sm (p.obj.length + p.rws.length) fun v => if (v : Int) = nth t.bs i then 1 else 0) = sm p.rws.length fun _ => 1 := sm_congr fun i hi => by
      have hbr := hm.di.br i hi
      have hn := hna i hi
      rw [sm_one (i0 := (nth t.bs i).toNat) (by omega) (fun v hv hvi => if_neg (fun e => hvi (by omega))), if_pos (by omega)]
    rw [e2]
    have : ∀ n : Nat, sm n (fun _ => (1 : Int)) = n := fun n => by
      induction n with
      | zero => rfl
      | succ n ih => simp only [sm]; rw [ih]; omega
    exact this _
  have h2 : (sm (p.obj.length + p.rws.length) fun v => (if (v : Int) ∈ t.bs then 0 else 1) + (if (v : Int) ∈ t.bs then 1 else 0)) = ((p.obj.length + p.rws.length : Nat) : Int) := by
    rw [sm_congr (g := fun _ => (1 : Int)) (fun v _ => by split <;> rfl)]
    have : ∀ n : Nat, sm n (fun _ => (1 : Int)) = n := fun n => by
      induction n with
      | zero => rfl
      | succ n ih => simp only [sm]; rw [ih]; omega
    exact this _
  rw [sm_add, h1] at h2
  omega
/-- No point, or a best point with n equations that it alone fulfils. -/
theorem lp_nb (hp : LpC p) : (∀ x d, ¬ Pt p x d) ∨ ∃ (nb : Nat → Bool) (x : Nat → Int) (D : Int), Pt p x D ∧ (∀ y d, Pt p y d → lval p y * D ≤ lval p x * d) ∧
    (sm (p.rws.length + p.obj.length) fun k => if nb k = true then 1 else 0) = p.obj.length ∧
    (∀ i : Nat, i < p.rws.length → nb i = true → sm p.obj.length (fun j => nth (nth p.rws i) j * x j) = nth p.bnd i * D) ∧ (∀ j : Nat, j < p.obj.length → nb (p.rws.length + j) = true → x j = 0) ∧
    ∀ z : Nat → Int, (∀ i : Nat, i < p.rws.length → nb i = true → sm p.obj.length (fun j => nth (nth p.rws i) j * z j) = 0) → (∀ j : Nat, j < p.obj.length → nb (p.rws.length + j) = true → z j = 0) → ∀ j, j < p.obj.length → z j = 0 := by
  have e4 : ((ntW p : Int) - 1) = (p.obj.length : Int) + p.rws.length + 1 := by unfold ntW; omega
  rcases start_ends hp with ⟨t1, h1, h2, h3, h4⟩ | ⟨t1, h1, h2, h3⟩
  · obtain ⟨k, t2, x0, g1, g2, g3, g4⟩ := max_ends hp (ob := p.rws.length) (n := p.obj.length + p.rws.length) (Nat.le_refl _) (by omega) (by omega) (fun t => Same p t ∧ NoA p t) (fun t t' c r hm hi hst => ⟨hi.1.stp hm hst, fun k hk he => by
      rw [hst.pe.bs, nth_set (by omega) (by rw [hm.di.bl]; omega)] at he
      split at he
      · have := hst.hc; omega
      · exact hi.2 k hk he⟩) h3 ⟨h2, h4⟩
    obtain ⟨hx, hall⟩ := not_unb hp g3.1 g2 (.inl rfl) (by omega) g4
    obtain ⟨x, q1, q2, q3, q4⟩ := base_pt2 hp g3.1 g2 g3.2
    obtain ⟨nb, n1, n2⟩ : ∃ nb : Nat → Bool, (∀ i : Nat, i < p.rws.length → nb i = decide (((p.obj.length + i : Nat) : Int) ∉ t2.bs)) ∧ ∀ j : Nat, nb (p.rws.length + j) = decide ((j : Int) ∉ t2.bs) :=
      ⟨fun k => if k < p.rws.length then decide (((p.obj.length + k : Nat) : Int) ∉ t2.bs) else decide (((k - p.rws.length : Nat) : Int) ∉ t2.bs), fun i hi => if_pos hi, fun j => by
        dsimp only
        rw [if_neg (by omega), show p.rws.length + j - p.rws.length = j from by omega]⟩
    refine .inr ⟨nb, x, t2.dn, q1, fun y d hy => ?_, ?_, fun i hi hn => ?_, fun j hj hn => ?_, fun z z1 z2 => ?_⟩
    · have h5 := Pt.eqn (x := y) (d := d) g3.1 (i := p.rws.length) (Nat.le_refl _) (by omega)
      rw [if_pos rfl] at h5
      have h6 := sm_nonneg (n := p.obj.length + p.rws.length) (f := fun j => cel t2 p.rws.length j * ptZ p y d j) fun j hj => Int.mul_nonneg (hall j hj) (hy.zn (by omega))
      rw [Int.mul_comm (lval p y), q2]
      omega
    · rw [sm_split, ← nb_count g2 g3.2, sm_split, Int.add_comm]
      congr 1
      · exact sm_congr fun k hk => by
          rw [n2 k]
          by_cases h : (k : Int) ∈ t2.bs
          · rw [if_pos h]; simp [h]
          · rw [if_neg h]; simp [h]
      · exact sm_congr fun k hk => by
          rw [n1 k hk]
          by_cases h : ((p.obj.length + k : Nat) : Int) ∈ t2.bs
          · rw [if_pos h, decide_eq_false (fun hh => hh h)]; rfl
          · rw [if_neg h, decide_eq_true h]; rfl
    · rw [n1 i hi] at hn
      exact q4 i hi (of_decide_eq_true hn)
    · rw [n2 j] at hn
      exact q3 j hj (of_decide_eq_true hn)
    · exact nb_uniq g3.1 g2 g3.2 (fun j hj hn => z2 j hj (by rw [n2 j]; exact decide_eq_true hn)) (fun i hi hn => z1 i hi (by rw [n1 i hi]; exact decide_eq_true hn))
  · exact .inl h3
end
/-! ### the word of a corner -/
theorem slT_nb {A : Mx} {n w : Nat} (hc : ∀ k : Nat, k ≤ A.length → (sm k fun i => if bitI w i = true then 1 else 0) ≤ (n : Int)) : ∀ {k : Nat}, k ≤ A.length → ((slT A [] n w k).length : Int) = (sm k fun i => if bitI w i = true then 1 else 0) ∧ ∀ i : Nat, i < k → bitI w i = true → nth A i ∈ slT A [] n w k
  | 0, _ => ⟨rfl, fun i hi => by omega⟩
  | k + 1, hk => by
    obtain ⟨h1, h2⟩ := slT_nb hc (k := k) (by omega)
    have hck := hc k (by omega)
    cases hb : bitI w k with
    | true =>
      rw [slT_t (by omega) hb]
      refine ⟨by simp only [sm]; rw [if_pos hb, List.length_append]; simp; omega, fun i hi hbi => ?_⟩
      by_cases hik : i = k
      · subst hik; simp
      · exact List.mem_append_left _ (h2 i (by omega) hbi)
    | false =>
      rw [slT_f hb]
      refine ⟨by simp only [sm]; rw [if_neg (by rw [hb]; decide)]; omega, fun i hi hbi => ?_⟩
      by_cases hik : i = k
      · subst hik; rw [hb] at hbi; cases hbi
      · exact h2 i (by omega) hbi
theorem sm_mono {f : Nat → Int} (h : ∀ i, 0 ≤ f i) {a b : Nat} (hab : a ≤ b) : sm a f ≤ sm b f := by
  obtain ⟨d, rfl⟩ : ∃ d, b = a + d := ⟨b - a, by omega⟩
  rw [sm_split]
  have := sm_nonneg (n := d) (f := fun i => f (a + i)) fun i _ => h _
  omega
theorem lp_al {p : LPr} (hp : LpC p) : AlP (alM p.rws p.bnd p.obj.length) [] p.obj.length := by
  refine al_p hp.ok.o6 hp.ok.r6 (fun i hi => ⟨hp.ok.w i hi, fun x hx => ?_⟩) (fun i hi => by have := hp.b i hi; omega) (by simp) (fun r hr => by simp at hr)
  obtain ⟨j, hj, rfl⟩ := List.getElem_of_mem hx
  have := hp.c i hi j (by rw [← hp.ok.w i hi]; exact hj)
  rw [nth_eq hj] at this; exact this
/-- A program without corners has no point; otherwise a corner is the best point. -/
theorem lp_corner {p : LPr} (hp : LpC p) : (∀ x d, ¬ Pt p x d) ∨ ∃ c, c ∈ coF (alM p.rws p.bnd p.obj.length) [] p.obj.length ∧ ∀ y d, Pt p y d → lval p y * c.2 ≤ pdN p.obj.length p.obj c.1 * d := by
  rcases lp_nb hp with h | ⟨nb, x, D, q1, q2, q3, q4, q5, q6⟩
  · exact .inl h
  · refine .inr ?_
    obtain ⟨A, hA⟩ : ∃ A, A = alM p.rws p.bnd p.obj.length := ⟨_, rfl⟩
    obtain ⟨n, hn⟩ : ∃ n, n = p.obj.length := ⟨_, rfl⟩
    have hAl : A.length = p.rws.length + p.obj.length := by rw [hA, alM_len]
    have hbit : ∀ i, i < A.length → bitI (wordOf nb A.length) i = nb i := fun i hi => wordOf_bit hi
    have hsb : ∀ k : Nat, k ≤ A.length → (sm k fun i => if bitI (wordOf nb A.length) i = true then (1 : Int) else 0) = sm k fun i => if nb i = true then 1 else 0 := fun k hk => sm_congr fun i hi => by rw [hbit i (by omega)]
    have hcn : ∀ k : Nat, k ≤ A.length → (sm k fun i => if bitI (wordOf nb A.length) i = true then (1 : Int) else 0) ≤ (p.obj.length : Int) := fun k hk => by
      rw [hsb k hk, ← q3, ← hAl]
      exact sm_mono (fun i => by split <;> omega) hk
    obtain ⟨s1, s2⟩ := slT_nb (A := A) (n := p.obj.length) (w := wordOf nb A.length) hcn (Nat.le_refl _)
    rw [hsb _ (Nat.le_refl _), hAl, q3, ← hAl] at s1
    have hl : (slT A [] p.obj.length (wordOf nb A.length) A.length).length = p.obj.length := by omega
    have hal : AlP A [] p.obj.length := by rw [hA]; exact lp_al hp
    have hsq := hal.sq hl
    obtain ⟨m, hm⟩ : ∃ m, m = slT A [] p.obj.length (wordOf nb A.length) A.length := ⟨_, rfl⟩
    rw [← hm] at hl hsq s2
    -- a row of the system
    have hrow : ∀ k : Nat, k < A.length → nb k = true → ∃ q : Nat, q < m.length ∧ nth m q = nth A k := fun k hk hk2 => by
      obtain ⟨q, hq, hqe⟩ := List.getElem_of_mem (s2 k hk (by rw [hbit k hk]; exact hk2))
      exact ⟨q, hq, by rw [nth_eq hq]; exact hqe⟩
    have hsel : ∀ q : Nat, q < m.length → ∃ k : Nat, k < A.length ∧ nb k = true ∧ nth m q = nth A k := fun q hq => by
      have hmem : nth m q ∈ slT A [] p.obj.length (wordOf nb A.length) A.length := by rw [← hm]; exact nth_mem (by omega) (by omega)
      rcases slT_mem (Nat.le_refl _) _ hmem with h | ⟨k, h1, h2, h3⟩
      · simp at h
      · exact ⟨k, h1, by rw [← hbit k h1]; exact h2, h3⟩
    have huni : ∀ z : Nat → Int, (∀ q : Nat, q < m.length → sm m.length (fun i => ce m q i * z i) = 0) → ∀ i, i < m.length → z i = 0 := fun z hz => by
      rw [hl] at hz ⊢
      refine q6 z (fun i hi hi2 => ?_) (fun j hj hj2 => ?_)
      · obtain ⟨q, hq, hqe⟩ := hrow i (by omega) hi2
        have h := hz q (by omega)
        unfold ce at h
        rw [hqe] at h
        have h2 := pd_row (b := p.bnd) hi (hp.ok.w i hi) (x := z)
        rw [← hA] at h2
        exact h2.symm.trans h
      · obtain ⟨q, hq, hqe⟩ := hrow (p.rws.length + j) (by omega) hj2
        have h := hz q (by omega)
        unfold ce at h
        rw [hqe] at h
        have h2 := pd_neg (R := p.rws) (b := p.bnd) hj (x := z)
        rw [← hA] at h2
        have := h2.symm.trans h
        omega
    obtain ⟨o, d, hf⟩ := ga_ends hsq huni
    obtain ⟨r1, r2, r3, r4⟩ := ga_some hsq hf
    -- the point solves the system
    have hpx : ∀ q : Nat, q < m.length → sm m.length (fun i => ce m q i * x i) = ce m q m.length * D := fun q hq => by
      obtain ⟨k, hk, hk2, hke⟩ := hsel q hq
      rw [hl]
      unfold ce
      rw [hke]
      by_cases hkm : k < p.rws.length
      · have h1 := pd_row (b := p.bnd) hkm (hp.ok.w k hkm) (x := x)
        have h2 := (ce_row (b := p.bnd) hkm (hp.ok.w k hkm)).1
        rw [← hA] at h1 h2
        unfold ce at h1 h2
        rw [h1, h2]; exact q4 k hkm hk2
      · obtain ⟨j, rfl⟩ : ∃ j, k = p.rws.length + j := ⟨k - p.rws.length, by omega⟩
        have h1 := pd_neg (R := p.rws) (b := p.bnd) (n := p.obj.length) (j := j) (by omega) (x := x)
        have h2 := (ce_neg (R := p.rws) (b := p.bnd) (n := p.obj.length) (j := j) (by omega)).1
        rw [← hA] at h1 h2
        unfold ce at h1 h2
        rw [h1, h2, q5 j (by omega) hk2]; omega
    have hprop : ∀ i, i < p.obj.length → D * nth o i = d * x i := fun i hi => by
      have := huni (fun i => D * nth o i + -d * x i) (fun q hq => by
        rw [sm_congr (g := fun i => D * (ce m q i * nth o i) + -d * (ce m q i * x i)) (fun i _ => by rw [Int.mul_add, Int.mul_left_comm, Int.mul_left_comm (ce m q i) (-d)]), sm_add, sm_mul, sm_mul, r4 q hq, hpx q hq, Int.neg_mul]
        have : D * (ce m q m.length * d) = d * (ce m q m.length * D) := by rw [Int.mul_left_comm, Int.mul_comm D d, Int.mul_left_comm]
        omega) i (by omega)
      have this : D * nth o i + -d * x i = 0 := this
      rw [Int.neg_mul] at this
      omega
    have hD := q1.dp
    have hscale : ∀ f : Nat → Int, D * sm p.obj.length (fun j => f j * nth o j) = d * sm p.obj.length (fun j => f j * x j) := fun f => by
      rw [← sm_mul, ← sm_mul]
      exact sm_congr fun j hj => by rw [Int.mul_left_comm, hprop j hj, Int.mul_left_comm]
    have hok : okC A p.obj.length o d A.length = true := okC_all.2 fun k hk => by
      unfold pdN
      refine Int.le_of_mul_le_mul_left (a := D) ?_ hD
      have e := hscale fun j => nth (nth A k) j
      rw [e]
      by_cases hkm : k < p.rws.length
      · have h1 := pd_row (b := p.bnd) hkm (hp.ok.w k hkm) (x := x)
        have h2 := (ce_row (b := p.bnd) hkm (hp.ok.w k hkm)).1
        rw [← hA] at h1 h2
        unfold ce at h1
        rw [h1, h2, Int.mul_left_comm, Int.mul_comm D, ← Int.mul_assoc, Int.mul_comm _ d, Int.mul_assoc]
        exact Int.mul_le_mul_of_nonneg_left (q1.row k hkm) (by omega)
      · obtain ⟨j, rfl⟩ : ∃ j, k = p.rws.length + j := ⟨k - p.rws.length, by omega⟩
        have h1 := pd_neg (R := p.rws) (b := p.bnd) (n := p.obj.length) (j := j) (by omega) (x := x)
        have h2 := (ce_neg (R := p.rws) (b := p.bnd) (n := p.obj.length) (j := j) (by omega)).1
        rw [← hA] at h1 h2
        unfold ce at h1
        rw [h1, h2, Int.zero_mul, Int.mul_zero, Int.mul_neg]
        have := Int.mul_nonneg (a := d) (b := x j) (by omega) (q1.nn j (by omega))
        omega
    refine ⟨(o, d), ?_, fun y e hy => ?_⟩
    · rw [← hA]
      refine coT_mem.2 ⟨wordOf nb A.length, wordOf_lt, ?_⟩
      unfold coW
      rw [← hm, if_pos hl, hf]
      show (if okC A p.obj.length o d A.length = true then some (o, d) else none) = _
      rw [if_pos hok]
    · have h1 := q2 y e hy
      have h2 := hscale fun j => nth p.obj j
      have h2 : D * pdN p.obj.length p.obj o = d * lval p x := h2
      show lval p y * d ≤ pdN p.obj.length p.obj o * e
      refine Int.le_of_mul_le_mul_left (a := D) ?_ hD
      have e1 : D * (lval p y * d) = d * (lval p y * D) := by rw [Int.mul_left_comm, Int.mul_comm D d, Int.mul_left_comm]
      have e2 : D * (pdN p.obj.length p.obj o * e) = d * (lval p x * e) := by rw [← Int.mul_assoc, h2, Int.mul_assoc]
      rw [e1, e2]
      exact Int.mul_le_mul_of_nonneg_left h1 (by omega)
end Go.Eng
end

section
/- The value of a program by its corners, in lowest terms. -/

namespace Go.Eng
theorem sm_abs {C : Int} {f : Nat → Int} : ∀ {n : Nat}, (∀ j, j < n → -C ≤ f j ∧ f j ≤ C) → -(C * n) ≤ sm n f ∧ sm n f ≤ C * n
  | 0, _ => by simp [sm]
  | n + 1, h => by
    have h1 := sm_abs (n := n) fun j hj => h j (by omega)
    have h2 := h n (by omega)
    have e : C * ((n + 1 : Nat) : Int) = C * n + C := by rw [Int.natCast_add, Int.mul_add]; simp
    simp only [sm]
    rw [e]; omega
theorem mul_abs {a b A B : Int} (ha : -A ≤ a ∧ a ≤ A) (hb : -B ≤ b ∧ b ≤ B) : -(A * B) ≤ a * b ∧ a * b ≤ A * B := by
  have hA : 0 ≤ A := by omega
  have hB : 0 ≤ B := by omega
  have h : (a * b).natAbs ≤ (A * B).natAbs := by
    rw [Int.natAbs_mul, Int.natAbs_mul]; exact Nat.mul_le_mul (by omega) (by omega)
  have := Int.mul_nonneg hA hB
  omega
/-- The greatest value of the first corners. -/
def lvT (o : List Int) (n : Nat) (l : List (List Int × Int)) : Nat → Int × Int
  | 0 => (pdN n o (nth l 0).1, (nth l 0).2)
  | k + 1 => if (lvT o n l k).1 * (nth l ((k + 1 : Nat) : Int)).2 < pdN n o (nth l ((k + 1 : Nat) : Int)).1 * (lvT o n l k).2 then (pdN n o (nth l ((k + 1 : Nat) : Int)).1, (nth l ((k + 1 : Nat) : Int)).2) else lvT o n l k
theorem lvT_t {o : List Int} {n k : Nat} {l : List (List Int × Int)} (h : (lvT o n l k).1 * (nth l ((k + 1 : Nat) : Int)).2 < pdN n o (nth l ((k + 1 : Nat) : Int)).1 * (lvT o n l k).2) : lvT o n l (k + 1) = (pdN n o (nth l ((k + 1 : Nat) : Int)).1, (nth l ((k + 1 : Nat) : Int)).2) := by simp only [lvT]; rw [if_pos h]
theorem lvT_f {o : List Int} {n k : Nat} {l : List (List Int × Int)} (h : ¬ (lvT o n l k).1 * (nth l ((k + 1 : Nat) : Int)).2 < pdN n o (nth l ((k + 1 : Nat) : Int)).1 * (lvT o n l k).2) : lvT o n l (k + 1) = lvT o n l k := by simp only [lvT]; rw [if_neg h]
theorem lvT_spec {o : List Int} {n : Nat} {l : List (List Int × Int)} (hd : ∀ i : Nat, i < l.length → 0 < (nth l i).2) : ∀ {k : Nat}, k < l.length → (∃ i : Nat, i ≤ k ∧ lvT o n l k = (pdN n o (nth l i).1, (nth l i).2)) ∧ ∀ i : Nat, i ≤ k → pdN n o (nth l i).1 * (lvT o n l k).2 ≤ (lvT o n l k).1 * (nth l i).2
  | 0, hk => ⟨⟨0, Nat.le_refl _, rfl⟩, fun i hi => by obtain rfl : i = 0 := by omega
                                                      exact Int.le_refl _⟩
  | k + 1, hk => by
    obtain ⟨⟨j, hj, he⟩, h2⟩ := lvT_spec (o := o) (n := n) hd (k := k) (by omega)
    have hdk := hd (k + 1) hk
    have hdj := hd j (by omega)
    by_cases hc : (lvT o n l k).1 * (nth l ((k + 1 : Nat) : Int)).2 < pdN n o (nth l ((k + 1 : Nat) : Int)).1 * (lvT o n l k).2
    · rw [lvT_t hc]
      refine ⟨⟨k + 1, Nat.le_refl _, rfl⟩, fun i hi => ?_⟩
      by_cases hik : i = k + 1
      · subst hik; exact Int.le_refl _
      · have h3 := h2 i (by omega)
        refine rat_le (b := (lvT o n l k).2) (y := (lvT o n l k).1) (hd i (by omega)) (by rw [he]; exact hdj) hdk h3 (Int.le_of_lt hc)
    · rw [lvT_f hc]
      refine ⟨⟨j, by omega, he⟩, fun i hi => ?_⟩
      by_cases hik : i = k + 1
      · subst hik; omega
      · exact h2 i (by omega)
theorem pd_abs {n : Nat} {o x : List Int} (hn : n ≤ 6) (ho : ∀ j : Nat, j < n → -20 ≤ nth o j ∧ nth o j ≤ 20) (hx : ∀ j : Nat, j < n → -720 ≤ nth x j ∧ nth x j ≤ 720) : ∀ k : Nat, k ≤ n → -86400 ≤ sm k (fun j => nth o j * nth x j) ∧ sm k (fun j => nth o j * nth x j) ≤ 86400 := fun k hk => by
  have := sm_abs (C := 14400) (n := k) (f := fun j => nth o j * nth x j) fun j hj => mul_abs (A := 20) (B := 720) (ho j (by omega)) (hx j (by omega))
  omega
/-! ### the value -/
abbrev lvL (p : LPr) : List (List Int × Int) := coF (alM p.rws p.bnd p.obj.length) [] p.obj.length
def lvS (p : LPr) : Int := if lvL p = [] then 2 else 1
def lvN (p : LPr) : Int × Int := if lvL p = [] then (0, 1) else lvT p.obj p.obj.length (lvL p) ((lvL p).length - 1)
theorem lvL_cor {p : LPr} (hp : LpC p) {c : List Int × Int} (hc : c ∈ lvL p) : Cor (alM p.rws p.bnd p.obj.length) p.obj.length c := co_cor (lp_al hp) hc
theorem lvL_at {p : LPr} (hp : LpC p) {i : Nat} (hi : i < (lvL p).length) : Cor (alM p.rws p.bnd p.obj.length) p.obj.length (nth (lvL p) i) := lvL_cor hp (nth_mem (by omega) (by omega))
theorem lv_law {p : LPr} (hp : LpC p) : (lvS p = 2 ∧ ∀ x d, ¬ Pt p x d) ∨ (lvS p = 1 ∧ lvL p ≠ [] ∧ 0 < (lvN p).2 ∧ (∃ x, Pt p x (lvN p).2 ∧ lval p x = (lvN p).1) ∧ ∀ y d, Pt p y d → lval p y * (lvN p).2 ≤ (lvN p).1 * d) := by
  by_cases hl : lvL p = []
  · refine .inl ⟨by unfold lvS; rw [if_pos hl], ?_⟩
    rcases lp_corner hp with h | ⟨c, hc, _⟩
    · exact h
    · have hc : c ∈ lvL p := hc
      rw [hl] at hc; simp at hc
  · have hpos : 0 < (lvL p).length := List.length_pos_iff.2 hl
    obtain ⟨⟨i, hi, he⟩, h2⟩ := lvT_spec (o := p.obj) (n := p.obj.length) (l := lvL p) (fun i hi => (lvL_at hp hi).d.1) (k := (lvL p).length - 1) (by omega)
    have hN : lvN p = lvT p.obj p.obj.length (lvL p) ((lvL p).length - 1) := by unfold lvN; rw [if_neg hl]
    have hci := lvL_at hp (i := i) (by omega)
    refine .inr ⟨by unfold lvS; rw [if_neg hl], hl, by rw [hN, he]; exact hci.d.1, ⟨fun j => nth (nth (lvL p) i).1 j, by rw [hN, he]; exact cor_pt hp hci, by rw [hN, he]; rfl⟩, fun y d hy => ?_⟩
    rcases lp_corner hp with h | ⟨c, hc, hbest⟩
    · exact absurd hy (h y d)
    · obtain ⟨k, hk, hke⟩ := List.getElem_of_mem hc
      have hcc := lvL_cor hp hc
      have h3 := h2 k (by have : k < (lvL p).length := hk; omega)
      have e : nth (lvL p) k = c := by rw [nth_eq hk]; exact hke
      rw [e, ← hN] at h3
      have hNp : 0 < (lvN p).2 := by rw [hN, he]; exact hci.d.1
      exact rat_le (b := c.2) (y := pdN p.obj.length p.obj c.1) hy.dp hcc.d.1 hNp (hbest y d hy) h3
theorem lvN_in {p : LPr} (hp : LpC p) (hl : lvL p ≠ []) : (-86400 ≤ (lvN p).1 ∧ (lvN p).1 ≤ 86400) ∧ (0 < (lvN p).2 ∧ (lvN p).2 ≤ 720) := by
  have hpos : 0 < (lvL p).length := List.length_pos_iff.2 hl
  obtain ⟨⟨i, hi, he⟩, _⟩ := lvT_spec (o := p.obj) (n := p.obj.length) (l := lvL p) (fun i hi => (lvL_at hp hi).d.1) (k := (lvL p).length - 1) (by omega)
  have hN : lvN p = lvT p.obj p.obj.length (lvL p) ((lvL p).length - 1) := by unfold lvN; rw [if_neg hl]
  have hci := lvL_at hp (i := i) (by omega)
  rw [hN, he]
  exact ⟨pd_abs hp.ok.o6 (fun j hj => by have := hp.o j hj; omega) hci.x _ (Nat.le_refl _), hci.d⟩
/-- Directions do not improve. -/
abbrev ryL (p : LPr) : List (List Int × Int) := coF (alM p.rws (List.replicate p.rws.length 0) p.obj.length) [List.replicate (p.obj.length + 1) 1] p.obj.length
theorem ry_al {p : LPr} (hp : LpC p) : AlP (alM p.rws (List.replicate p.rws.length 0) p.obj.length) [List.replicate (p.obj.length + 1) 1] p.obj.length := by
  refine al_p hp.ok.o6 hp.ok.r6 (fun i hi => ⟨hp.ok.w i hi, fun x hx => ?_⟩) (fun i hi => ?_) (by simp) (fun r hr => ?_)
  · obtain ⟨j, hj, rfl⟩ := List.getElem_of_mem hx
    have := hp.c i hi j (by rw [← hp.ok.w i hi]; exact hj)
    rw [nth_eq hj] at this; exact this
  · rw [nth_eq (by simpa using hi), List.getElem_replicate]; omega
  · rw [List.mem_singleton] at hr; subst hr
    exact ⟨by simp, fun x hx => by have := (List.mem_replicate.1 hx).2; omega⟩
theorem ry_le {p : LPr} (hp : LpC p) {i : Nat} (hi : i < (ryL p).length) : Cor (alM p.rws (List.replicate p.rws.length 0) p.obj.length) p.obj.length (nth (ryL p) i) ∧ pdN p.obj.length p.obj (nth (ryL p) i).1 ≤ 0 := by
  have hc := co_cor (ry_al hp) (nth_mem (l := ryL p) (n := (i : Int)) (by omega) (by omega))
  refine ⟨hc, ?_⟩
  have := sm_nonneg (n := p.obj.length) (f := fun j => -(nth p.obj j * nth (nth (ryL p) i).1 j)) fun j hj => by
    have h1 := (hp.o j hj).2
    have h2 := cor_nn hc hj
    have h3 := Int.mul_nonneg (a := -(nth p.obj j)) (by omega) h2
    rw [Int.neg_mul] at h3; exact h3
  rw [sm_neg] at this
  unfold pdN; omega
/-! ### lowest terms -/
theorem low_uniq {A D B E : Int} (hD : 0 < D) (hE : 0 < E) (h : A * E = B * D) : lowF A D = lowF B E := by
  have cop : ∀ {A D : Int}, 0 < D → Int.gcd (lowF A D).1 (lowF A D).2 = 1 := fun {A D} hD => by
    have hg : 0 < Int.gcd A D := Int.gcd_pos_of_ne_zero_right _ (by omega)
    show Int.gcd (A.tdiv _) (D.tdiv _) = 1
    unfold Int.gcd
    rw [Int.natAbs_tdiv, Int.natAbs_tdiv]
    simp only [Int.natAbs_natCast]
    unfold Int.gcd at hg
    have e1 : (A.natAbs.div (A.natAbs.gcd D.natAbs)).gcd (D.natAbs.div (A.natAbs.gcd D.natAbs)) = A.natAbs.gcd D.natAbs / A.natAbs.gcd D.natAbs := Nat.gcd_div (Nat.gcd_dvd_left _ _) (Nat.gcd_dvd_right _ _)
    rw [e1]; exact Nat.div_self hg
  obtain ⟨g, g1, g2, g3⟩ := low_mul (T := A) hD
  obtain ⟨k, k1, k2, k3⟩ := low_mul (T := B) hE
  have c1 := cop (A := A) hD
  have c2 := cop (A := B) hE
  generalize (lowF A D) = x at *
  generalize (lowF B E) = y at *
  obtain ⟨a, b⟩ := x
  obtain ⟨c, d⟩ := y
  dsimp only at *
  have hb : 0 < b := by
    refine Int.not_le.1 fun hn => ?_
    have := Int.mul_nonneg (a := g) (b := -b) (by omega) (by omega)
    rw [Int.mul_neg] at this; omega
  have hd : 0 < d := by
    refine Int.not_le.1 fun hn => ?_
    have := Int.mul_nonneg (a := k) (b := -d) (by omega) (by omega)
    rw [Int.mul_neg] at this; omega
  have hx : a * d = c * b := by
    rw [g2, g3, k2, k3] at h
    have e : (g * k) * (a * d) = (g * k) * (c * b) := by
      have l : g * a * (k * d) = (g * k) * (a * d) := by ac_rfl
      have r : k * c * (g * b) = (g * k) * (c * b) := by ac_rfl
      rw [← l, ← r, h]
    exact Int.eq_of_mul_eq_mul_left (by have := Int.mul_pos g1 k1; omega) e
  have hN : a.natAbs * d.natAbs = c.natAbs * b.natAbs := by rw [← Int.natAbs_mul, ← Int.natAbs_mul, hx]
  have d1 : b.natAbs ∣ d.natAbs := by
    have : b.natAbs ∣ a.natAbs * d.natAbs := ⟨c.natAbs, by rw [hN, Nat.mul_comm]⟩
    exact (Nat.Coprime.symm c1).dvd_of_dvd_mul_left this
  have d2 : d.natAbs ∣ b.natAbs := by
    have : d.natAbs ∣ c.natAbs * b.natAbs := ⟨a.natAbs, by rw [← hN, Nat.mul_comm]⟩
    exact (Nat.Coprime.symm c2).dvd_of_dvd_mul_left this
  have hbd : b = d := by have := Nat.dvd_antisymm d1 d2; omega
  subst hbd
  have hac : a = c := Int.eq_of_mul_eq_mul_right (by omega) hx
  rw [hac]
theorem low_neg {n d : Int} : lowF (-n) d = (-(lowF n d).1, (lowF n d).2) := by
  unfold lowF
  rw [Int.neg_gcd, Int.neg_tdiv]
/-- The bound and the corners. -/
theorem cp_good2 (t : Tsk) : ∃ o, (cpF t = (0, 0) → SolR (cpA t) o) ∧ (cpF t = (0, 0) → (lvS (cpA t) = 2 ∧ bdR t o = (1000000000, 1)) ∨ (lvS (cpA t) = 1 ∧ lvL (cpA t) ≠ [] ∧ bdR t o = lowF (-(lvN (cpA t)).1) (lvN (cpA t)).2)) := by
  by_cases h : cpF t = (0, 0)
  · have hp := cpA_lc h
    rcases lp_solved hp with ⟨h1, h2⟩ | ⟨T, D, h1, h2, h3, h4, ⟨x, h5, h6⟩, h7⟩
    · refine ⟨none, fun _ => h1, fun _ => .inl ⟨?_, (bd_2 h (by simp [solT])).symm⟩⟩
      rcases lv_law hp with ⟨q, _⟩ | ⟨_, _, _, ⟨x, q, _⟩, _⟩
      · exact q
      · exact absurd q (h2 _ _)
    · refine ⟨_, fun _ => h1, fun _ => .inr ?_⟩
      rcases lv_law hp with ⟨_, q⟩ | ⟨q1, q2, q3, ⟨y, q4, q5⟩, q6⟩
      · exact absurd h5 (q _ _)
      · refine ⟨q1, q2, ?_⟩
        rw [← bd_0 h (by simp [solT]), low_neg]
        have e : lowF T D = lowF (lvN (cpA t)).1 (lvN (cpA t)).2 := low_uniq h4 q3 (by
          have a1 := q6 x D h5
          have a2 := h7 y _ q4
          rw [h6] at a1; rw [q5] at a2
          omega)
        rw [← e]; rfl
  · exact ⟨none, fun h' => absurd h' h, fun h' => absurd h' h⟩
end Go.Eng
end

section
/- Rows of a matrix in memory, elimination in place. -/


namespace Go.Eng
open Go.RowKit (Below)
section
variable {P : Program} {N : Nat} {w0 : World} {O0 : Nat → Nat} {ops : Array Oper} {Q : Post} {e : Env} {M : Mem} {rest : List Oper} {o : Oper} {s : S} {B : Nat} {c : Code}
/-- A slice of plain values becomes part of a pinned memory, between operations. -/
theorem TrOps.pinOwn (h h' : Nat) {F : PF} {T : Nat} {l : List Value} (hM : look M h = some (.any (pinK F))) (hM' : look M h' = some (.own 1 T (l.map fun v => [D.v v]))) (hh : h' ≠ h) (hl : l ≠ [])
    (hc : ∀ (b cap : Nat) (tl : List Value), F b = none → l.length ≤ cap → cap ≤ maxLen → TrOps P N w0 O0 ops Q (fzE h' (.v (slc b l.length cap)) e) ((h, .any (pinK (updF F b T (l ++ tl)))) :: fzM h' (.v (slc b l.length cap)) M) rest) : TrOps P N w0 O0 ops Q e M rest := by
  intro O H a w hst
  obtain ⟨b, cap, xs, hH, hB, hO, hb, hlc, hcm, hsz, hw, hcc⟩ := (hst.mem h' _ hM').ownSome (by rw [List.length_map]; exact List.length_pos_iff.2 hl)
  simp only [List.length_map] at hH hlc
  have hx : xs.toList.take l.length = l := by
    refine List.ext_getElem (by simp; omega) fun i h1 h2 => ?_
    obtain ⟨x, q1, q2, _⟩ := hcc i [.v l[i]] 0 (.v l[i]) (by simp [h2]) rfl
    cases q2 with
    | v _ =>
      have e1 : i * 1 + 0 = i := by omega
      rw [e1] at q1
      simp [Array.getElem?_eq_some_iff.1 q1 |>.2]
  have hxs : (l ++ xs.toList.drop l.length).toArray = xs := by
    apply Array.ext'
    simp only [List.toList_toArray]
    conv => rhs; rw [← List.take_append_drop l.length xs.toList, hx]
  obtain ⟨hn, hp⟩ := pinK_add (hst.mem h _ hM) (l := l ++ xs.toList.drop l.length) hB (by rw [hxs]; exact hb) (by rw [hO]; omega)
  have hk : Keeps O w (setL O b (h + 1)) w := setL_keeps (by rw [hO]; omega)
  have hst2 := fz_st (h := h') (dd := .v (slc b l.length cap)) hst hk (by rw [hH]; exact .v _) (fun c hc => by unfold setL; rw [if_neg (by omega)]) (fun c h2 hne h3 => by unfold setL; rw [if_neg (fun e => by subst e; rw [hO] at h3; omega)]; exact h3)
  refine hc b cap (xs.toList.drop l.length) hn hlc hcm _ H a w (hst2.memSet ?_)
  have : H h = H h := rfl
  exact hp

end
structure BkP (n : Nat) (L : List Blk) : Prop where
  l : L.length = n
  nd : (L.map (·.1)).Nodup
  c : ∀ x, x ∈ L → n + 1 ≤ x.2.1 ∧ x.2.1 ≤ maxLen
noncomputable abbrev mxF (T : Nat) (w : Mx) (L : List Blk) : PF := rowF T (fun i => nth w (i : Int)) L
noncomputable abbrev mxM (T : Nat) (w : Mx) (L : List Blk) : Mo := .any (pinK (mxF T w L))
section
variable {n T : Nat} {L : List Blk} {w : Mx}
theorem rowF_at (hk : BkP n L) {f : Nat → List Int} {i : Nat} (hi : i < n) : rowF T f L (nth L i).1 = some (T, iv (f i) ++ (nth L i).2.2) := by
  have hl : i < L.length := by rw [hk.l]; exact hi
  have e : (nth L i).1 = (L.map (·.1))[i]'(by simpa using hl) := by rw [nth_eq hl]; simp
  have hm : (nth L i).1 ∈ L.map (·.1) := by rw [e]; exact List.getElem_mem _
  have hx : (L.map (·.1)).idxOf (nth L i).1 = i := by rw [e]; exact idxOf_nd hk.nd (by simpa using hl)
  unfold rowF
  rw [if_pos hm, hx]
  congr 3
  simp only [List.getD_eq_getElem?_getD, List.getElem?_map, List.getElem?_eq_getElem hl, Option.map_some, Option.getD_some]
  rw [nth_eq hl]
theorem rhd_get (hk : L.length = n) {i : Int} (h0 : 0 ≤ i) (h1 : i < n) : ((rhd (n + 1) L).map fun v => [D.v v])[i.toNat]? = some [D.v (slc (nth L i).1 (n + 1) (nth L i).2.1)] := by
  obtain ⟨k, rfl⟩ := Int.eq_ofNat_of_zero_le h0
  have hl : k < L.length := by omega
  simp [rhd, List.getElem?_map, List.getElem?_eq_getElem hl, nth_eq hl]
theorem rhd_len : ((rhd (n + 1) L).map fun v => [D.v v]).length = L.length := by simp [rhd]
theorem rhd_set {i : Nat} {x : Blk} : ((rhd (n + 1) L).map fun v => [D.v v]).set i [D.v (slc x.1 (n + 1) x.2.1)] = (rhd (n + 1) (L.set i x)).map fun v => [D.v v] := by
  unfold rhd
  rw [List.map_set, List.map_set]
theorem iv_at {l : List Int} {tl : List Value} {j : Int} (h0 : 0 ≤ j) (h1 : j < l.length) : (iv l ++ tl)[0 + j.toNat]? = some (.int .i64 (nth l j)) := by
  obtain ⟨k, rfl⟩ := Int.eq_ofNat_of_zero_le h0
  have hl : k < l.length := by omega
  rw [List.getElem?_append_left (by simp [iv]; omega)]
  simp [iv, List.getElem?_eq_getElem hl, nth_eq hl]
theorem rowF_set (hk : BkP n L) (hw : w.length = n) {i j : Nat} {v : Int} (hi : i < n) (hj : j < (nth w i).length) : updF (mxF T w L) (nth L i).1 T ((iv (nth w i) ++ (nth L i).2.2).set (0 + j) (.int .i64 v)) = mxF T (w.set i ((nth w i).set j v)) L := by
  have hl : i < L.length := by rw [hk.l]; exact hi
  funext b
  unfold updF
  by_cases hb : b = (nth L i).1
  · subst hb
    rw [if_pos rfl]
    show _ = rowF T _ L (nth L i).1
    rw [rowF_at hk hi, nth_set (by omega) (by omega), if_pos (by omega), Nat.zero_add, List.set_append_left _ _ (by simpa [iv] using hj)]
    simp [iv, List.map_set]
  · rw [if_neg hb]
    show rowF T _ L b = rowF T _ L b
    by_cases hm : b ∈ L.map (·.1)
    · obtain ⟨k, hk', he⟩ := List.getElem_of_mem hm
      have hkl : k < L.length := by simpa using hk'
      have e : b = (nth L k).1 := by rw [nth_eq hkl, ← he]; simp
      have hki : k ≠ i := fun q => hb (by rw [e, q])
      rw [e, rowF_at hk (by rw [← hk.l]; exact hkl), rowF_at hk (by rw [← hk.l]; exact hkl), nth_set (by omega) (by have := hk.l; omega), if_neg (by omega)]
    · unfold rowF; rw [if_neg hm, if_neg hm]
theorem nth_swp {α : Type} [Inhabited α] {l : List α} {a c i : Nat} (ha : a < l.length) (hc : c < l.length) (hi : i < l.length) : nth (swp l a c) i = nth l (tw a c i) := by rw [swp_at ha hc hi]; rfl
theorem BkP.swp (hk : BkP n L) {a c : Nat} (ha : a < n) (hc : c < n) : BkP n (swp L a c) := by
  have hl := hk.l
  refine ⟨by rw [swp_len]; exact hl, ?_, fun x hx => ?_⟩
  · refine List.pairwise_iff_getElem.2 fun i j hi hj hij he => ?_
    have hi' : i < L.length := by simpa [swp_len] using hi
    have hj' : j < L.length := by simpa [swp_len] using hj
    have e : ∀ k, (hkl : k < L.length) → ∀ hk' : k < ((Go.Eng.swp L a c).map (·.1)).length, ((Go.Eng.swp L a c).map (·.1))[k] = (L.map (·.1))[tw a c k]'(by have := tw_lt (n := L.length) (a := a) (c := c) (i := k) (by omega) (by omega) (by assumption); simpa using this) := fun k hkl hk' => by
      have hs : k < (Go.Eng.swp L a c).length := by rw [swp_len]; exact hkl
      have h2 := nth_swp (l := L) (a := a) (c := c) (i := k) (by omega) (by omega) hkl
      rw [nth_eq hs, nth_eq (tw_lt (by omega) (by omega) hkl)] at h2
      simp [h2]
    rw [e i hi' hi, e j hj' hj] at he
    have ti := tw_lt (n := L.length) (a := a) (c := c) (i := i) (by omega) (by omega) (by omega)
    have tj := tw_lt (n := L.length) (a := a) (c := c) (i := j) (by omega) (by omega) (by omega)
    have h1 := idxOf_nd hk.nd (i := tw a c i) (by simpa using ti)
    have h2 := idxOf_nd hk.nd (i := tw a c j) (by simpa using tj)
    rw [he, h2] at h1
    have h3 : tw a c (tw a c i) = tw a c (tw a c j) := by rw [h1]
    rw [tw_tw, tw_tw] at h3
    omega
  · obtain ⟨i, hi, rfl⟩ := List.getElem_of_mem hx
    have hi' : i < L.length := by simpa [swp_len] using hi
    have h2 := nth_swp (l := L) (a := a) (c := c) (i := i) (by omega) (by omega) hi'
    rw [nth_eq hi] at h2
    rw [h2]
    exact hk.c _ (nth_mem (by omega) (by have := tw_lt (n := L.length) (a := a) (c := c) (i := i) (by omega) (by omega) hi'; omega))
theorem rowF_swp (hk : BkP n L) (hw : w.length = n) {a c : Nat} (ha : a < n) (hc : c < n) : mxF T w L = mxF T (swp w a c) (swp L a c) := by
  have hl := hk.l
  have hk2 := hk.swp ha hc
  funext b
  by_cases hm : b ∈ (swp L a c).map (·.1)
  · obtain ⟨k, hk', he⟩ := List.getElem_of_mem hm
    have hks : k < (swp L a c).length := by simpa using hk'
    have hkl : k < L.length := by simpa [swp_len] using hks
    have htw := tw_lt (n := n) (a := a) (c := c) (i := k) ha hc (by omega)
    have e : b = (nth (swp L a c) k).1 := by rw [nth_eq hks, ← he]; simp
    have e2 : nth (swp L a c) k = nth L (tw a c k) := nth_swp (by omega) (by omega) hkl
    have h1 : mxF T (swp w a c) (swp L a c) b = some (T, iv (nth (swp w a c) k) ++ (nth (swp L a c) k).2.2) := by rw [e]; exact rowF_at hk2 (by omega)
    have h2 : mxF T w L b = some (T, iv (nth w (tw a c k)) ++ (nth L (tw a c k)).2.2) := by rw [e, e2]; exact rowF_at hk htw
    rw [h1, h2, e2, nth_swp (by omega) (by omega) (by omega)]
  · have hm2 : b ∉ L.map (·.1) := fun h => hm (by
      obtain ⟨k, hk', he⟩ := List.getElem_of_mem h
      have hkl : k < L.length := by simpa using hk'
      have htw := tw_lt (n := L.length) (a := a) (c := c) (i := k) (by omega) (by omega) hkl
      have e2 : nth (swp L a c) (tw a c k) = nth L k := by rw [nth_swp (by omega) (by omega) htw, tw_tw]
      rw [nth_eq (by rw [swp_len]; exact htw), nth_eq hkl] at e2
      refine List.mem_map.2 ⟨(swp L a c)[tw a c k]'(by rw [swp_len]; exact htw), List.getElem_mem _, ?_⟩
      rw [e2, ← he]; simp)
    show rowF T _ L b = rowF T _ _ b
    unfold rowF
    rw [if_neg hm, if_neg hm2]
end
section
variable {P : Program} {B : Nat} {o : Oper} {e : Env} {M : Mem} {n T h : Nat} {L : List Blk} {w : Mx}
theorem OpSem.mxC {t : TypeId} {x : Operand} {i j : Int} (hk : BkP n L) (hw : ∀ i : Nat, i < n → (nth w i).length = n + 1) (ho : o.op = .load t x) (hx : opS e x = some (.d (.v (ptr (nth L i).1 (0 + j.toNat))))) (hM : look M h = some (mxM T w L)) (ht : vsz P t = some (false, 1))
    (h0 : 0 ≤ i) (h1 : i < n) (k0 : 0 ≤ j) (k1 : j < n + 1) : OpSem P B o e M (.d (.v (.int .i64 (ce w i j)))) none := by
  obtain ⟨a, rfl⟩ := Int.eq_ofNat_of_zero_le h0
  exact OpSem.loadv ho hx hM ht (rowF_at hk (by omega)) (iv_at k0 (by rw [hw a (by omega)]; omega))
theorem OpSt.mxC {t : TypeId} {x y : Operand} {i j v : Int} (hk : BkP n L) (hl : w.length = n) (hw : ∀ i : Nat, i < n → (nth w i).length = n + 1) (ho : o.op = .store t x y) (hx : opS e x = some (.d (.v (ptr (nth L i).1 (0 + j.toNat))))) (hy : opS e y = some (.d (.v (.int .i64 v)))) (ht : vsz P t = some (false, 1))
    (h0 : 0 ≤ i) (h1 : i < n) (k0 : 0 ≤ j) (k1 : j < n + 1) : OpSt P B o e h (mxM T w L) (mxM T (w.set i.toNat ((nth w i).set j.toNat v)) L) .u := by
  obtain ⟨a, rfl⟩ := Int.eq_ofNat_of_zero_le h0
  have hwa := hw a (by omega)
  exact OpSt.storev ho hx hy ht (rowF_at hk (by omega)) (by simp [iv, hwa]; omega) rfl (by rw [Int.toNat_natCast]; exact rowF_set hk hl (by omega) (by rw [hwa]; omega))
end
/-! ### rows in work -/
/-- Rows before i are done, row i up to j. -/
def elJ (w : Mx) (c : Nat) (last : Int) (i j : Nat) : Mx := (List.range w.length).map fun (k : Nat) => if k = i then elR w c last i j else if k < i ∧ k ≠ c then elR w c last k (w.length + 1) else nth w k
theorem elJ_len {w : Mx} {c i j : Nat} {last : Int} : (elJ w c last i j).length = w.length := by simp [elJ]
theorem elJ_at {w : Mx} {c i j k : Nat} {last : Int} (hk : k < w.length) : nth (elJ w c last i j) k = if k = i then elR w c last i j else if k < i ∧ k ≠ c then elR w c last k (w.length + 1) else nth w k := by
  unfold elJ; rw [nth_rangeMap hk]
theorem list_nth {α : Type} [Inhabited α] {a b : List α} (h : a.length = b.length) (he : ∀ k : Nat, k < a.length → nth a k = nth b k) : a = b := by
  refine List.ext_getElem h fun k h1 h2 => ?_
  have := he k h1
  rw [nth_eq h1, nth_eq h2] at this; exact this
theorem elR_0 {w : Mx} {c i : Nat} {last : Int} (hw : (nth w i).length = w.length + 1) : elR w c last i 0 = nth w i := by
  refine list_nth (by rw [elR_len, hw]) fun k hk => ?_
  rw [elR_len] at hk
  rw [elR_at hk, if_neg (by omega)]; rfl
theorem elJ_0 {w : Mx} {c i : Nat} {last : Int} (hi : i < w.length) (hw : (nth w i).length = w.length + 1) : elI w c last i = elJ w c last i 0 := by
  refine list_nth (by rw [elI_len, elJ_len]) fun k hk => ?_
  rw [elI_len] at hk
  rw [elI_at hk, elJ_at hk]
  by_cases hki : k = i
  · subst hki; rw [if_pos rfl, if_neg (by omega), elR_0 hw]
  · rw [if_neg hki]
theorem elI_0 {w : Mx} {c : Nat} {last : Int} : elI w c last 0 = w := by
  refine list_nth elI_len fun k hk => ?_
  rw [elI_len] at hk
  rw [elI_at hk, if_neg (by omega)]
theorem elI_c {w : Mx} {c : Nat} {last : Int} : elI w c last (c + 1) = elI w c last c := by
  refine list_nth (by rw [elI_len, elI_len]) fun k hk => ?_
  rw [elI_len] at hk
  rw [elI_at hk, elI_at hk]
  by_cases hkc : k = c
  · rw [if_neg (fun h => h.2 hkc), if_neg (fun h => h.2 hkc)]
  · by_cases hlt : k < c
    · rw [if_pos ⟨by omega, hkc⟩, if_pos ⟨hlt, hkc⟩]
    · rw [if_neg (by omega), if_neg (by omega)]
theorem elJ_end {w : Mx} {c i : Nat} {last : Int} (hi : i < w.length) (hic : i ≠ c) : elJ w c last i (w.length + 1) = elI w c last (i + 1) := by
  refine list_nth (by rw [elI_len, elJ_len]) fun k hk => ?_
  rw [elJ_len] at hk
  rw [elI_at hk, elJ_at hk]
  by_cases hki : k = i
  · subst hki; rw [if_pos rfl, if_pos ⟨by omega, hic⟩]
  · rw [if_neg hki]
    by_cases hlt : k < i ∧ k ≠ c
    · rw [if_pos hlt, if_pos ⟨by omega, hlt.2⟩]
    · rw [if_neg hlt, if_neg (fun h => hlt ⟨by omega, h.2⟩)]
theorem elJ_s {w : Mx} {c i j : Nat} {last v : Int} (hi : i < w.length) (hj : j < w.length + 1) (hv : v = (ce w i j * ce w c c - ce w i c * ce w c j).tdiv last) : (elJ w c last i j).set i ((nth (elJ w c last i j) i).set j v) = elJ w c last i (j + 1) := by
  refine list_nth (by rw [List.length_set, elJ_len, elJ_len]) fun k hk => ?_
  rw [List.length_set, elJ_len] at hk
  rw [nth_set (by omega) (by rw [elJ_len]; omega), elJ_at hk, elJ_at hk, elJ_at hi, if_pos rfl]
  by_cases hki : k = i
  · subst hki
    rw [if_pos (by omega), if_pos rfl]
    refine list_nth (by rw [List.length_set, elR_len, elR_len]) fun q hq => ?_
    rw [List.length_set, elR_len] at hq
    rw [nth_set (by omega) (by rw [elR_len]; omega), elR_at hq, elR_at hq]
    by_cases hqj : q = j
    · subst hqj; rw [if_pos (by omega), if_pos (by omega), hv]
    · rw [if_neg (by omega)]
      by_cases hlt : q < j
      · rw [if_pos hlt, if_pos (by omega)]
      · rw [if_neg hlt, if_neg (by omega)]
  · rw [if_neg (by omega), if_neg hki, if_neg hki]
theorem elJ_w {w : Mx} {c i j n : Nat} {last : Int} (hl : w.length = n) (hw : ∀ i : Nat, i < n → (nth w i).length = n + 1) : (elJ w c last i j).length = n ∧ ∀ k : Nat, k < n → (nth (elJ w c last i j) k).length = n + 1 := by
  refine ⟨by rw [elJ_len, hl], fun k hk => ?_⟩
  rw [elJ_at (by omega)]
  split
  · rw [elR_len, hl]
  · split
    · rw [elR_len, hl]
    · exact hw k hk
theorem elI_w {w : Mx} {c i n : Nat} {last : Int} (hl : w.length = n) (hw : ∀ i : Nat, i < n → (nth w i).length = n + 1) : (elI w c last i).length = n ∧ ∀ k : Nat, k < n → (nth (elI w c last i) k).length = n + 1 := by
  refine ⟨by rw [elI_len, hl], fun k hk => ?_⟩
  rw [elI_at (by omega)]
  split
  · rw [elR_len, hl]
  · exact hw k hk
/-- What row i holds while it is in work. -/
theorem elJ_row {w : Mx} {c i j : Nat} {last : Int} (hi : i < w.length) (hc : c < w.length) (hic : i ≠ c) (hj : j < w.length + 1) : ce (elJ w c last i j) i j = ce w i j ∧ ce (elJ w c last i j) c j = ce w c j ∧ ce (elJ w c last i j) c c = ce w c c := by
  unfold ce
  rw [elJ_at hi, if_pos rfl, elR_at hj, if_neg (by omega), elJ_at hc, if_neg (fun e => hic e.symm), if_neg (fun h => h.2 rfl)]
  exact ⟨rfl, rfl, rfl⟩
theorem elI_row {w : Mx} {c i j : Nat} {last : Int} (hi : i < w.length) : ce (elI w c last i) i j = ce w i j := by
  unfold ce
  rw [elI_at hi, if_neg (by omega)]
theorem elI_cc {w : Mx} {c k j : Nat} {last : Int} (hc : c < w.length) : ce (elI w c last k) c j = ce w c j := by
  unfold ce
  rw [elI_at hc, if_neg (fun h => h.2 rfl)]
theorem pin_m {m : Mx} {T b cap k : Nat} {L : List Blk} {tl : List Value} (hL : L.length = k) (hF : rowF T (fun i => nth m (i : Int)) L b = none) : updF (rowF T (fun i => nth m (i : Int)) L) b T (iv (nth m (k : Int)) ++ tl) = rowF T (fun i => nth m (i : Int)) (L ++ [(b, cap, tl)]) := by
  subst hL; exact rowF_s hF
def atF (w : Mx) (c : Nat) : Nat := (pvt w c).getD w.length
theorem atF_no {w : Mx} {c : Nat} (h0 : ∀ i : Nat, c ≤ i → i < w.length → ce w i c = 0) : atF w c = w.length := by unfold atF; rw [pvt_no h0]; rfl
theorem atF_at {w : Mx} {c a : Nat} (ha : a < w.length) (hc : c ≤ a) (h1 : ce w a c ≠ 0) (h0 : ∀ i : Nat, c ≤ i → i < a → ce w i c = 0) : atF w c = a := by unfold atF; rw [pvt_at ha hc h1 h0]; rfl
theorem atF_none {w : Mx} {c : Nat} (h : atF w c = w.length) : pvt w c = none := by
  cases hp : pvt w c with
  | none => rfl
  | some a => have := pvt_some hp; unfold atF at h; rw [hp] at h; simp at h; omega
theorem atF_some {w : Mx} {c : Nat} (h : atF w c ≠ w.length) : pvt w c = some (atF w c) := by
  cases hp : pvt w c with
  | none => unfold atF at h; rw [hp] at h; simp at h
  | some a => unfold atF; rw [hp]; rfl
/-- Divisor's step. -/
theorem dv_step {a b : Int} (ha : 0 ≤ a) (hb : 0 < b) : 0 ≤ a.tmod b ∧ a.tmod b < b ∧ Int.gcd (a.tmod b) b = Int.gcd a b := by
  rw [Int.tmod_eq_emod_of_nonneg ha]
  refine ⟨Int.emod_nonneg _ (by omega), Int.emod_lt_of_pos _ hb, ?_⟩
  obtain ⟨x, rfl⟩ := Int.eq_ofNat_of_zero_le ha
  obtain ⟨y, rfl⟩ := Int.eq_ofNat_of_zero_le (Int.le_of_lt hb)
  rw [← Int.natCast_emod]
  show Nat.gcd (x % y) y = Nat.gcd x y
  rw [Nat.gcd_comm x y, Nat.gcd_rec y x]
theorem dv_end {a b n d : Int} (ha : 0 ≤ a) (hb : 0 ≤ b) (hg : Int.gcd a b = Int.gcd n d) (h : a = 0 ∨ b = 0) : a + b = Int.gcd n d := by
  rw [← hg]
  rcases h with rfl | rfl
  · rw [Int.gcd_zero_left]; omega
  · rw [Int.gcd_zero_right]; omega
def elO (m : Mx) : List Int × Int × Bool := match gaF m with
  | none => ([], 0, false)
  | some c => (c.1, c.2, true)
theorem elO_no {m : Mx} {c : Nat} {x : Mx × Int} (hc : c < m.length) (hx : gaK m c = some x) (hp : pvt x.1 c = none) : elO m = ([], 0, false) := by
  have h1 : gaK m (c + 1) = none := by
    unfold gaK; rw [hx]
    show gaS x c = none
    unfold gaS; rw [hp]
  have h2 : ∀ d, gaK m (c + 1 + d) = none := fun d => by
    induction d with
    | zero => exact h1
    | succ d ih => show (gaK m (c + 1 + d)).bind _ = none; rw [ih]; rfl
  unfold elO gaF
  have := h2 (m.length - (c + 1))
  rw [show c + 1 + (m.length - (c + 1)) = m.length by omega] at this
  rw [this]; rfl
theorem elO_yes {m : Mx} {x : Mx × Int} (hx : gaK m m.length = some x) : elO m = (gaO x m.length, if x.2 < 0 then -x.2 else x.2, true) := by
  unfold elO gaF; rw [hx]; rfl
theorem gaK_s {m : Mx} {c a : Nat} {x : Mx × Int} (hx : gaK m c = some x) (hp : pvt x.1 c = some a) : gaK m (c + 1) = some (elI (swp x.1 a c) c x.2 x.1.length, ce (swp x.1 a c) c c) := by
  unfold gaK; rw [hx]
  show gaS x c = _
  unfold gaS; rw [hp]
theorem gaO_s {x : Mx × Int} {k : Nat} : gaO x (k + 1) = gaO x k ++ [if x.2 < 0 then -(ce x.1 k x.1.length) else ce x.1 k x.1.length] := by simp [gaO, List.range_succ]
theorem gaO_len {x : Mx × Int} {k : Nat} : (gaO x k).length = k := by simp [gaO]
end Go.Eng
end

section
/- Walks, written by gen.py out of hints. -/




namespace Go.Proofs.Ytlidcpmdgceboaa
open Go.Eng
set_option maxRecDepth 10000
set_option maxHeartbeats 1000000

theorem S3_Product_does (a b : List Int) (h : a.length = b.length) (h1 : ∀ k : Nat, k ≤ a.length → -1000000000 ≤ sm k (fun j => nth a j * nth b j) ∧ sm k (fun j => nth a j * nth b j) ≤ 1000000000) : Does Try.prog false 44 [.d (ints a), .d (ints b)] (I (sm a.length (fun j => nth a j * nth b j))) := by
 refine Does.of_body Try.func44 rfl rfl (by simp) Try.call44 (fun w0 O0 => ?_); refine .lenLe (n := 0) rfl (fun len0 => ?_); refine .lenLe (n := 1) rfl (fun len1 => ?_); refine .seq ?_; refine .region ?_; refine .a ?_; refine .z ?_; refine .a ?_; refine .sq ?_; refine .seq ?_; refine .seq ?_; refine .region ?_; refine .a ?_; refine .sq ?_; refine .block ?_; refine .loop (X := Nat) (fun k => k ≤ a.length) (fun k => [(0, .d (ints a)), (1, .d (ints b)), (5, I (sm k (fun j => nth a j * nth b j))), (6, I (k))]) (fun k => []) (fun k => a.length - k) 0 (by omega) ?_ ?_
 ·exact .sl <| .sl <| .slot rfl (Le.of_eq rfl) <| .slot rfl (Le.of_eq (by simp)) <| .nil
 ·rintro k hkl
  refine .seq ?_; refine .seq ?_; refine .region ?_; refine .m ?_; refine .m ?_; refine .x (OpSem.lenL rfl rfl es22) ?_; refine .x (.b blss) ?_; refine .m ?_; refine .split (n := 11) rfl (fun c11 => ?_) (fun c11 => ?_)
  ·have hk : k < a.length := by simpa using c11
   have g1 := h1 k (by omega)
   have g2 := h1 (k + 1) (by omega)
   simp only [sm] at g2
   refine .gt c11 ?_; refine .m ?_; refine .gt c11 ?_; refine .m ?_; refine .gt c11 ?_; refine .x (OpSem.lenL rfl rfl es22) ?_; refine .gt c11 ?_; refine .x (.b blss) ?_; refine .x (OpSem.pickT rfl rfl c11 rfl) ?_; refine .sq ?_; refine .condT rfl (by simp; omega) ?_; refine .skip ?_; refine .seq ?_; refine .seq ?_; refine .block ?_; refine PC.start [] ?_; refine .m ?_; refine .m ?_; refine .m ?_; refine .x (OpSem.idxL rfl rfl rfl es22 (by omega) (by omega)) ?_; refine .x (OpSem.load1 rfl rfl vs3 rfl) ?_; refine .m ?_; refine .m ?_; refine .x (OpSem.idxL rfl rfl rfl es22 (by omega) (by omega)) ?_; refine .x (OpSem.load1 rfl rfl vs3 rfl) ?_; refine .x (OpSem.bin rfl rfl rfl (bmul (by omega) (by omega))) ?_; refine .d0 mixed ?_; refine .x .ad ?_; refine .a ?_; refine .nil ?_; refine .block_normal ?_; refine .y ?_; refine .m ?_; refine .x .ad ?_; refine .a ?_; refine .nil ?_; refine .again (k + 1) (by omega) ?_ (by omega); exact .sl <| .sl <| .slot rfl (Le.of_eq rfl) <| .slot rfl (Le.of_eq (by simp)) <| .nil
  ·have hk : k = a.length := by simp at c11; omega
   subst hk
   refine .gf c11 ?_; refine .gf c11 ?_; refine .gf c11 ?_; refine .gf c11 ?_; refine .x (OpSem.pickF rfl rfl c11 rfl) ?_; refine .sq ?_; refine .condF rfl rfl ?_; refine .exit ?_; refine .pass_exit ?_; refine .pass_exit ?_; refine .block_same ?_; refine .z ?_; refine .m ?_; refine .a ?_; refine .sq ?_; refine .ret ?_; exact .ret rfl (.tmp rfl <| .nil) rfl (.refl _)

theorem S3_Divisor_does (n d : Int) (hn : -1000000000 ≤ n ∧ n ≤ 1000000000) (hd : -1000000000 ≤ d ∧ d ≤ 1000000000) : Does Try.prog false 45 [I (n), I (d)] (I (Int.gcd n d : Int)) := by
 refine Does.of_body Try.func45 rfl rfl (by simp) Try.call45 (fun w0 O0 => ?_); refine .seq ?_; refine .region ?_; refine .a ?_; refine .sq ?_; refine .cut [(0, I ((n.natAbs : Int))), (1, I (d))] [] ?_ ?_
 ·refine .seq ?_; refine .region ?_; refine .m ?_; refine .x (.b blss) ?_; refine .sq ?_; refine .cond rfl (fun c6 => ?_) (fun c6 => ?_)
  ·refine .region ?_; refine .m ?_; refine .x (OpSem.neg rfl rfl (neg_in (by omega) (by omega))) ?_; refine .a ?_; refine .nil ?_; refine .meet ?_; exact .slot rfl (Le.i (by simp at c6; omega)) <| .sl <| .nil
  ·refine .skip ?_; refine .meet ?_; exact .slot rfl (Le.i (by simp at c6; omega)) <| .sl <| .nil
 ·refine .cut [(0, I ((n.natAbs : Int))), (1, I ((d.natAbs : Int)))] [] ?_ ?_
  ·refine .seq ?_; refine .region ?_; refine .m ?_; refine .x (.b blss) ?_; refine .sq ?_; refine .cond rfl (fun c10 => ?_) (fun c10 => ?_)
   ·refine .region ?_; refine .m ?_; refine .x (OpSem.neg rfl rfl (neg_in (by omega) (by omega))) ?_; refine .a ?_; refine .nil ?_; refine .meet ?_; exact .sl <| .slot rfl (Le.i (by simp at c10; omega)) <| .nil
   ·refine .skip ?_; refine .meet ?_; exact .sl <| .slot rfl (Le.i (by simp at c10; omega)) <| .nil
  ·refine .seq ?_; refine .block ?_; refine .loop (X := Int × Int) (fun x => 0 ≤ x.1 ∧ 0 ≤ x.2 ∧ Int.gcd x.1 x.2 = Int.gcd n d ∧ x.1 ≤ 1000000000 ∧ x.2 ≤ 1000000000) (fun x => [(0, I (x.1)), (1, I (x.2))]) (fun x => []) (fun x => (x.1 + x.2).toNat) ((n.natAbs : Int), (d.natAbs : Int)) ⟨by omega, by omega, by simp [Int.gcd], by omega, by omega⟩ ?_ ?_
   ·exact .all
   ·rintro x ⟨q1, q2, q3, q4, q5⟩
    refine .seq ?_; refine .seq ?_; refine .region ?_; refine .m ?_; refine .x (.b bneq) ?_; refine .m ?_; refine .split (n := 15) rfl (fun c15 => ?_) (fun c15 => ?_)
    ·refine .gt c15 ?_; refine .m ?_; refine .gt c15 ?_; refine .x (.b bneq) ?_; refine .x (OpSem.pickT rfl rfl c15 rfl) ?_; refine .sq ?_; refine .cond rfl (fun c18 => ?_) (fun c18 => ?_)
     ·have z1 : x.1 ≠ 0 := fun h => by simp [h] at c15
      have z2 : x.2 ≠ 0 := fun h => by simp [h] at c18
      refine .skip ?_; refine .seq ?_; refine .block ?_; refine .seq ?_; refine .region ?_; refine .m ?_; refine .m ?_; refine .x (.b bgtr) ?_; refine .sq ?_; refine .cond rfl (fun c21 => ?_) (fun c21 => ?_)
      ·obtain ⟨s1, s2, s3⟩ := dv_step (a := x.1) (b := x.2) q1 (by omega)
       have hgt : x.2 < x.1 := by simpa using c21
       refine .region ?_; refine .m ?_; refine .m ?_; refine .x (OpSem.bin rfl rfl rfl (bremT (by omega))) ?_; refine .a ?_; refine .nil ?_; refine .block_normal ?_; refine .again (x.1.tmod x.2, x.2) ⟨s1, q2, s3.trans q3, by omega, q5⟩ ?_ (by simp only []; omega)
       exact .all
      ·obtain ⟨s1, s2, s3⟩ := dv_step (a := x.2) (b := x.1) q2 (by omega)
       have hle : x.1 ≤ x.2 := by simp at c21; omega
       refine .region ?_; refine .m ?_; refine .m ?_; refine .x (OpSem.bin rfl rfl rfl (bremT (by omega))) ?_; refine .a ?_; refine .nil ?_; refine .block_normal ?_; refine .again (x.1, x.2.tmod x.1) ⟨q1, s1, ((Int.gcd_comm ..).trans (s3.trans (Int.gcd_comm ..))).trans q3, q4, by omega⟩ ?_ (by simp only []; omega)
       exact .all
     ·refine .exit ?_; refine .pass_exit ?_; refine .pass_exit ?_; refine .block_same ?_; refine .z ?_; refine .m ?_; refine .m ?_; refine .x .ad ?_; refine .a ?_; refine .sq ?_; refine .ret ?_; exact .ret rfl (.tmp rfl <| .nil) rfl (Le.i (dv_end q1 q2 q3 (by first | (exact .inl (by simpa using c15)) | (exact .inr (by simpa using c18)))))
    ·refine .gf c15 ?_; refine .gf c15 ?_; refine .x (OpSem.pickF rfl rfl c15 rfl) ?_; refine .sq ?_; refine .condF rfl rfl ?_; refine .exit ?_; refine .pass_exit ?_; refine .pass_exit ?_; refine .block_same ?_; refine .z ?_; refine .m ?_; refine .m ?_; refine .x .ad ?_; refine .a ?_; refine .sq ?_; refine .ret ?_; exact .ret rfl (.tmp rfl <| .nil) rfl (Le.i (dv_end q1 q2 q3 (by first | (exact .inl (by simpa using c15)) | (exact .inr (by simpa using c18)))))

theorem S3_FractionCode_does (a b : Int) (ha : -1000000000 ≤ a ∧ a ≤ 1000000000) (hb : 1 ≤ b ∧ b ≤ 1000000000) (hg : (Int.gcd a b : Int) = 1) : Does Try.prog false 46 [flt ((a, b))] (I 0) := by
 refine Does.of_body Try.func46 rfl rfl (by simp) Try.call46 (fun w0 O0 => ?_); refine .seq ?_; refine .region ?_; refine .semM (OpSem.box 1 rfl rfl rfl rfl) rfl rfl (by decide) ?_; refine .a ?_; refine .sq ?_; refine .seq ?_; refine .seq ?_; refine .region ?_; refine .x (.f fo28_0) ?_; refine .x (.l vs3) ?_; refine .x (OpSem.call0 (R_In_does a (-1000000000) 1000000000) rfl rfl rfl rfl (Les.refl _)) ?_; refine .x (OpSem.not rfl rfl) ?_; refine .m ?_; refine .gT rfl rfl rfl rfl (by simp; omega) ?_; refine .x (.f fo28_1) ?_; refine .gT rfl rfl rfl rfl (by simp; omega) ?_; refine .x (.l vs3) ?_; refine .gT rfl rfl rfl rfl (by simp; omega) ?_; refine .x (OpSem.call0 (R_In_does b 1 1000000000) rfl rfl rfl rfl (Les.refl _)) ?_; refine .gT rfl rfl rfl rfl (by simp; omega) ?_; refine .x (OpSem.not rfl rfl) ?_; refine .x (OpSem.pickF rfl rfl (by simp; omega) rfl) ?_; refine .sq ?_; refine .condF rfl (by simp; omega) ?_; refine .skip ?_; refine .seq ?_; refine .seq ?_; refine .seq ?_; refine .region ?_; refine .x (.f fo28_0) ?_; refine .x (.l vs3) ?_; refine .x (.f fo28_1) ?_; refine .x (.l vs3) ?_; refine .x (OpSem.call0 (S3_Divisor_does a b ha (by omega)) rfl rfl rfl rfl (Les.refl _)) ?_; refine .x (.b bneq) ?_; refine .sq ?_; refine .condF rfl (by rw [hg]; rfl) ?_; refine .skip ?_; refine .z ?_; refine .a ?_; refine .sq ?_; refine .ret ?_; exact .ret rfl (.tmp rfl <| .nil) rfl (.refl _)

theorem S3_Lowest_does (n d : Int) (hn : -1000000000 ≤ n ∧ n ≤ 1000000000) (hd : 0 < d ∧ d ≤ 1000000000) : Does Try.prog false 19 [I (n), I (d)] (.t [flt (lowF n d), Bo true]) := by
 obtain ⟨w1, w2, w3, w4, w5, w6, w7⟩ := low_ok hn.1 hn.2 hd.1 hd.2
 refine Does.of_body Try.func19 rfl rfl (by simp) Try.call19 (fun w0 O0 => ?_); refine .seq ?_; refine .region ?_; refine .semM (OpSem.alloc 4 rfl zc28 rfl) rfl rfl (by decide) ?_; refine .a ?_; refine .z ?_; refine .m ?_; refine .m ?_; refine .x (OpSem.call0 (S3_Divisor_does n d hn (by omega)) rfl rfl rfl rfl (Les.refl _)) ?_; refine .a ?_; refine .sq ?_; refine .seq ?_; refine .seq ?_; refine .region ?_; refine .m ?_; refine .x (.b blss) ?_; refine .sq ?_; refine .cond rfl (fun c12 => ?_) (fun c12 => ?_)
 ·exfalso; simp at c12; omega
 ·refine .skip ?_; refine .seq ?_; refine .seq ?_; refine PC.start [] ?_; refine .m ?_; refine .m ?_; refine .x (OpSem.bin rfl rfl rfl (bquoT (by omega) (by omega) (by omega))) ?_; refine .m ?_; refine .m ?_; refine .x (OpSem.bin rfl rfl rfl (bquoT (by omega) (by omega) (by omega))) ?_; refine .x (OpSem.build rfl rfl pl28 zc28 rfl rfl) ?_; refine .semM (OpSem.alloc 7 rfl zc28 rfl) rfl rfl ?_; refine .d1 7 (.box [I (0), I (0)]) mixed ?_; refine .sb vs28 ?_; refine .sq ?_; refine .seq ?_; refine .seq ?_; refine .region ?_; refine .x (OpSem.loadbN rfl rfl rfl vs28 (by first | decide | simp)) ?_; refine .x (OpSem.call0 (S3_FractionCode_does (lowF n d).1 (lowF n d).2 ⟨w1, w2⟩ ⟨by omega, w4⟩ (by omega)) rfl rfl rfl rfl (Les.refl _)) ?_; refine .x (.b bneq) ?_; refine .sq ?_; refine .cond rfl (fun c24 => ?_) (fun c24 => ?_)
  ·exfalso; simp at c24
  ·refine .skip ?_; refine .z ?_; refine .x (OpSem.loadbN rfl rfl rfl vs28 (by first | decide | simp)) ?_; refine .sb vs28 ?_; refine .a ?_; refine .sq ?_; refine .ret ?_; exact .ret rfl (.cellN rfl rfl vs28 <| .tmp rfl <| .nil) rfl (.refl _)

end Go.Proofs.Ytlidcpmdgceboaa
end
