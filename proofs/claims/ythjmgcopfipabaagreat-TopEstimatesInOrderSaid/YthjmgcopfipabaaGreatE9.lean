/- Part 9. -/
import Derived.Test.YthjmgcopfipabaaGreatE8
import Derived.Laws.CopyRow
set_option linter.unusedSimpArgs false
set_option linter.unnecessarySimpa false
set_option linter.unusedVariables false
set_option linter.unusedSectionVars false
section
namespace Go.Eng
abbrev Cuts := List (List Int × Int)
def hiUT (m : Cuts) (k : Nat) : List Int := (m.take k).flatMap (·.1)
def hiU (m : Cuts) : List Int := dd (sortI (hiUT m m.length))
def hiC (t : Tsk) (U : List Int) (k : Nat) : List Int := (U.take k).map fun op => (nth t.ops op).cost
def hiST (U : List Int) (l : List Int) (k : Nat) : List Int := (l.take k).map fun op => ((lbd U op : Nat) : Int)
def hiS (U : List Int) (m : Cuts) (k : Nat) : List (List Int) := (m.take k).map fun c => hiST U c.1 c.1.length
def hiL (m : Cuts) : Prop := 16 < m.length ∨ 16 < (hiU m).length
instance {m : Cuts} : Decidable (hiL m) := by unfold hiL; exact inferInstance
def hiV (t : Tsk) (m : Cuts) : Int := (hbF (hiS (hiU m) m m.length) (hiC t (hiU m) (hiU m).length)).1
noncomputable def hiR (t : Tsk) (s : List Int) : Int := if sttF t s ≠ (0, 0) ∨ (cutW t s).2 = 1000000000 then (cutW t s).2 else if hiL (cutW t s).1 then 0 else hiV t (cutW t s).1
noncomputable def hiE (t : Tsk) (s : List Int) : Int × Int := if sttF t s ≠ (0, 0) ∨ (cutW t s).2 = 1000000000 then sttF t s else if hiL (cutW t s).1 then (10, -8) else (0, 0)
section
variable {t : Tsk} {s : List Int} {m : Cuts} {U : List Int}
theorem hiU_mem {x : Int} : x ∈ hiU m ↔ ∃ c, c ∈ m ∧ x ∈ c.1 := by
 unfold hiU hiUT
 rw [dd_mem, sortI_mem, List.take_length, List.mem_flatMap]
theorem hiU_lt : (hiU m).Pairwise (· < ·) := dd_strictI sortI_sorted
theorem csO_erase {a : Nat} : ∀ {L : List Nat}, a ∈ L → csO t L = (nth t.ops a).cost + csO t (L.erase a)
 | [], h => by simp at h
 | b :: L, h => by
  by_cases hb : b = a
  ·subst hb; simp [csO]
  ·rw [List.erase_cons_tail (by simpa using hb)]
   simp only [csO]
   rw [csO_erase (L := L) ((List.mem_cons.1 h).resolve_left fun e => hb e.symm)]
   omega
theorem csO_sub (hV : TskV t) : ∀ {p L : List Nat}, L.Nodup → (∀ i, i ∈ L → i ∈ p) → (∀ i, i ∈ p → i < t.ops.length) → csO t L ≤ csO t p
 | [], L, _, h, _ => by
  cases L with
  | nil => exact Int.le_refl _
  | cons a L => have := h a (by simp); simp at this
 | a :: p, L, hn, h, hr => by
  have ha := (hV.op a (hr a (by simp))).2.1
  by_cases hm : a ∈ L
  ·have ih := csO_sub hV (p := p) (L := L.erase a) (hn.erase a) (fun i hi => by
    have h1 := List.mem_of_mem_erase hi
    rcases List.mem_cons.1 (h i h1) with rfl | h2
    ·exact absurd hi (List.Nodup.not_mem_erase hn)
    ·exact h2) (fun i hi => hr i (by simp [hi]))
   rw [csO_erase hm]; simp only [csO]; omega
  ·have ih := csO_sub hV (p := p) (L := L) hn (fun i hi => (List.mem_cons.1 (h i hi)).resolve_left fun e => hm (by rw [← e]; exact hi)) (fun i hi => hr i (by simp [hi]))
   simp only [csO]; omega
def gL (f : Nat → Int) : List Nat → Int
 | [] => 0
 | e :: l => f e + gL f l
theorem gL_le {f g : Nat → Int} {l : List Nat} (h : ∀ e, e ∈ l → f e ≤ g e) : gL f l ≤ gL g l := by
 induction l with
 | nil => exact Int.le_refl _
 | cons a l ih =>
  have h1 := h a (by simp)
  have h2 := ih fun e he => h e (by simp [he])
  simp only [gL]; omega
theorem gL_add {f g : Nat → Int} {l : List Nat} : gL (fun e => f e + g e) l = gL f l + gL g l := by
 induction l with
 | nil => rfl
 | cons a l ih => simp only [gL, ih]; omega
theorem gL_ge {f : Nat → Int} {l : List Nat} {v : Int} (h0 : ∀ e, e ∈ l → 0 ≤ f e) (h : ∃ e, e ∈ l ∧ v ≤ f e) : v ≤ gL f l := by
 induction l with
 | nil => obtain ⟨e, he, _⟩ := h; simp at he
 | cons a l ih =>
  have hn : 0 ≤ gL f l := by
   have : gL (fun _ => 0) l ≤ gL f l := gL_le fun e he => h0 e (by simp [he])
   have e0 : gL (fun _ => 0) l = 0 := by clear ih h h0 this; induction l with
    | nil => rfl
    | cons b l ih => simp only [gL, ih]; rfl
   omega
  obtain ⟨e, he, hv⟩ := h
  simp only [gL]
  rcases List.mem_cons.1 he with rfl | he
  ·omega
  ·have := ih (fun x hx => h0 x (by simp [hx])) ⟨e, he, hv⟩
   have := h0 a (by simp); omega
theorem sumC_le {H : List Nat} (h0 : ∀ c, c ∈ m → 0 ≤ c.2) (hit : ∀ c, c ∈ m → ∃ e, e ∈ H ∧ (((nth U e).toNat : Nat) : Int) ∈ c.1) : sumC m ≤ gL (fun e => chgC m (nth U e).toNat) H := by
 induction m with
 | nil =>
  have : gL (fun e => chgC [] (nth U e).toNat) H = gL (fun _ => 0) H := rfl
  rw [this]
  have e0 : gL (fun _ => 0) H = 0 := by clear hit this; induction H with
   | nil => rfl
   | cons b l ih => simp only [gL, ih]; rfl
  rw [e0]; simp [sumC]
 | cons c m ih =>
  have h1 := ih (fun d hd => h0 d (by simp [hd])) (fun d hd => hit d (by simp [hd]))
  have e1 : (fun e : Nat => chgC (c :: m) (nth U e).toNat) = fun e : Nat => (if (((nth U e).toNat : Nat) : Int) ∈ c.1 then c.2 else 0) + chgC m (nth U e).toNat := by
   funext e; simp [chgC]
  have h2 : c.2 ≤ gL (fun e : Nat => if (((nth U e).toNat : Nat) : Int) ∈ c.1 then c.2 else 0) H := by
   have hc := h0 c (by simp)
   refine gL_ge (fun e _ => by split <;> omega) ?_
   obtain ⟨e, he, hm⟩ := hit c (by simp)
   exact ⟨e, he, by rw [if_pos hm]; exact Int.le_refl _⟩
  rw [e1, gL_add]
  have : sumC (c :: m) = c.2 + sumC m := by simp [sumC]
  omega
theorem coL_gL {cs : List Int} : ∀ {l : List Nat}, coL cs l = gL (fun e => nth cs e) l
 | [] => rfl
 | e :: l => by simp only [coL, gL]; rw [coL_gL]
theorem hiC_at {e : Nat} (he : e < U.length) : nth (hiC t U U.length) e = (nth t.ops (nth U e)).cost := by
 unfold hiC
 rw [List.take_length, nth_eq (by simpa using he), List.getElem_map, nth_eq he]
theorem hiS_at {b : Nat} (hb : b < m.length) : nth (hiS U m m.length) b = (nth m b).1.map fun op => ((lbd U op : Nat) : Int) := by
 unfold hiS hiST
 rw [List.take_length, nth_eq (by simpa using hb), List.getElem_map, List.take_length, nth_eq hb]
theorem hi_spec (hV : TskV t) (hC : CutsP t s (cssF t) m) (hL : ¬ hiL m) : sumC m ≤ hiV t m ∧ 0 ≤ hiV t m ∧ ∀ p, Rx t s t.goal p → hiV t m ≤ csO t p := by
 obtain ⟨U, hU⟩ : ∃ U, hiU m = U := ⟨_, rfl⟩
 have hlt : U.Pairwise (· < ·) := by rw [← hU]; exact hiU_lt
 have hmem : ∀ x : Int, x ∈ U ↔ ∃ c, c ∈ m ∧ x ∈ c.1 := fun x => by rw [← hU]; exact hiU_mem
 have hl : m.length ≤ 16 ∧ U.length ≤ 16 := by unfold hiL at hL; rw [hU] at hL; omega
 have hrg : ∀ x, x ∈ U → 0 ≤ x ∧ x < t.ops.length := fun x hx => by
  obtain ⟨c, hc, hx⟩ := (hmem x).1 hx
  exact (hC.e c hc).2.2.2.1 x hx
 have hcl : (hiC t U U.length).length = U.length := by simp [hiC]
 have hsl : (hiS U m m.length).length = m.length := by simp [hiS]
 have hUi : ∀ e : Nat, e < U.length → 0 ≤ nth U e ∧ nth U e < t.ops.length := fun e he => hrg _ (nth_mem (by omega) (by omega))
 have hcc : ∀ i : Nat, i < (hiC t U U.length).length → 0 ≤ nth (hiC t U U.length) i ∧ nth (hiC t U U.length) i ≤ 100 := fun i hi => by
  rw [hcl] at hi
  rw [hiC_at hi]
  have := hUi i hi
  obtain ⟨k, hk⟩ := Int.eq_ofNat_of_zero_le this.1
  rw [hk]
  exact (hV.op k (by omega)).2
 have hP := hbO_p (sets := hiS U m m.length) (by omega) hcc (Nat.le_refl _)
 have hp1 : 0 < (2 : Nat) ^ m.length := Nat.pow_pos (by omega)
 have hv : hiV t m = (nth (hbO (hiS U m m.length) (hiC t U U.length) (hiC t U U.length).length) ((2 ^ m.length - 1 : Nat) : Int)).1 := by
  unfold hiV hbF
  rw [hU, hsl]
  congr 2; omega
 have hlow : sumC m ≤ hiV t m := by
  rw [hv]
  rcases hP.s (2 ^ m.length - 1) (by rw [hsl]; omega) with q | ⟨_, H, b1, b2, b3, b4⟩
  ·rw [q]
   have h1 := hC.m
   have h2 := (css_v hV).sum
   have h3 := hV.ops
   show _ ≤ (1000000000 : Int); omega
  ·rw [b4, coL_gL]
   refine Int.le_trans (sumC_le (U := U) (H := H) (fun c hc => (hC.e c hc).1) fun c hc => ?_) (gL_le fun e he => ?_)
   ·obtain ⟨b, hb, rfl⟩ := List.getElem_of_mem hc
    obtain ⟨e, he, hm⟩ := orL_hit (sets := hiS U m m.length) (l := H) (by rw [b3, hsl]) (b := b) (by omega)
    rw [hiS_at hb, List.mem_map] at hm
    obtain ⟨op, hop, heq⟩ := hm
    rw [nth_eq hb] at hop
    have hopU : op ∈ U := (hmem op).2 ⟨_, hc, hop⟩
    obtain ⟨l1, l2⟩ := (lbd_mem hlt).1 hopU
    have he2 : e = lbd U op := by omega
    refine ⟨e, he, ?_⟩
    rw [he2, l2]
    have := hrg op hopU
    rw [Int.toNat_of_nonneg this.1]; exact hop
   ·have hlt2 := b2 e he
    rw [hcl] at hlt2
    have hr := hUi e hlt2
    have h1 := hC.c (nth U e).toNat (by omega)
    rw [css_at (by omega)] at h1
    rw [hiC_at hlt2]
    rw [Int.toNat_of_nonneg hr.1] at h1
    exact h1
 refine ⟨hlow, ?_, fun p hp => ?_⟩
 ·have h1 := hC.n; omega
 ·rw [hv]
  obtain ⟨H, hH⟩ : ∃ H, (List.range U.length).filter (fun e : Nat => decide ((nth U e).toNat ∈ p)) = H := ⟨_, rfl⟩
  have hHm : ∀ e, e ∈ H ↔ e < U.length ∧ (nth U e).toNat ∈ p := fun e => by rw [← hH, List.mem_filter, List.mem_range]; simp
  have hHp : H.Pairwise (· < ·) := by rw [← hH]; exact List.Pairwise.filter _ List.pairwise_lt_range
  have h1 := hP.c H hHp fun e he => by rw [hcl]; exact ((hHm e).1 he).1
  have h2 : orL (hiS U m m.length) H = 2 ^ m.length - 1 := by
   have h5 : orL (hiS U m m.length) H = 2 ^ (hiS U m m.length).length - 1 := orL_all fun b hb => ?_
   ·rw [hsl] at h5; exact h5
   have hb : b < m.length := by omega
   obtain ⟨i, hi, hic⟩ := (hC.e _ (List.getElem_mem hb)).2.2.2.2 p hp
   have hiU' : (i : Int) ∈ U := (hmem _).2 ⟨_, List.getElem_mem hb, hic⟩
   obtain ⟨l1, l2⟩ := (lbd_mem hlt).1 hiU'
   refine ⟨lbd U i, (hHm _).2 ⟨l1, by rw [l2]; simpa using hi⟩, ?_⟩
   rw [hiS_at hb, List.mem_map, nth_eq hb]
   exact ⟨_, hic, rfl⟩
  rw [h2] at h1
  refine Int.le_trans h1 ?_
  have h3 : ∀ l : List Nat, (∀ e, e ∈ l → e < U.length) → coL (hiC t U U.length) l = csO t (l.map fun e : Nat => (nth U e).toNat) := fun l => by
   induction l with
   | nil => exact fun _ => rfl
   | cons e l ih =>
    intro hl
    have he := hl e (by simp)
    simp only [coL, List.map_cons, csO]
    rw [ih fun x hx => hl x (by simp [hx]), hiC_at he, Int.toNat_of_nonneg (hUi e he).1]
  rw [h3 H fun e he => ((hHm e).1 he).1]
  refine csO_sub hV ?_ (fun i hi => ?_) hp.i
  ·have : (H.map fun e : Nat => (nth U e).toNat).Pairwise (· < ·) := by
    rw [List.pairwise_map]
    refine List.Pairwise.imp_of_mem (fun {a b} ha hb hab => ?_) hHp
    have ha2 := ((hHm a).1 ha).1
    have hb2 := ((hHm b).1 hb).1
    have := List.pairwise_iff_getElem.1 hlt a b ha2 hb2 hab
    rw [nth_eq ha2, nth_eq hb2]
    have := (hUi a ha2).1
    rw [nth_eq ha2] at this
    omega
   exact this.imp fun h => Nat.ne_of_lt h
  ·obtain ⟨e, he, rfl⟩ := List.mem_map.1 hi
   exact ((hHm e).1 he).2
end
end Go.Eng
end

section
namespace Go.Eng
open Go.RowKit (Below)
section
variable {P : Program} {B : Nat} {o : Oper} {e : Env} {M : Mem} {s : S}
theorem run_copy_rowK (w : World) (dT sT ty elem : TypeId) (g o dLen dCap : Nat) (a : Addr) (sLen sCap k n : Nat) (cur : Array Value) (t : TypeId) (cs : List Value)
  (hu : P.underlying dT = some (.slice elem)) (hs : (P.info? elem).map (·.size) = some k)
  (hg : w.heap[g]? = some (.cells cur t (0, 0))) (hn : n = Nat.min sLen dLen) (hcl : cs.length = n * k)
  (hsrc : ∀ j v, cs[j]? = some v → w.cell? (a.add j) = some v) (hfit : o + cs.length ≤ cur.size) (h1 : ∀ v ∈ cs, v.oneCell' = true) :
  (Builtin.copy_ #[dT, sT] ty #[.slice (some ⟨g, o, none⟩) dLen dCap, .slice (some a) sLen sCap]).run P w =
   .ok (goInt n) (w.setRow g (cur.toList.take o ++ cs ++ cur.toList.drop (o + cs.length)).toArray) := by
 have hl := run_loadCells_list (P := P) w a cs hsrc
 have hst := run_storeCells_at P g o t cs 0 cur w hg (by simpa using hfit) h1
 rw [hcl] at hl
 cases hq : P.info? elem with
 | none => simp [hq] at hs
 | some i =>
  have hi : i.size = k := by simpa [hq] using hs
  rw [hn] at hl
  simp [Builtin.copy_, run_underlying hu, Builtin.lenOf, Builtin.firstCells, sizeOf, typeInfo, hq, hi, hn, hl, hst]
theorem copy_coreK {O : Nat → Nat} {H : Nat → Value} {w : World} {k t1 t2 ty T h b lo len dcap cap slen scap n : Nat} {xs : Array Value} {rows src : List (List D)} {a : Addr} {cs : List Value}
  (hk : esz P t1 = some k) (g1 : H h = .slice (some ⟨b, 0, none⟩) rows.length cap) (g2 : B ≤ b) (g3 : O b = h + 1) (g4 : w.heap[b]? = some (.cells xs T (0, 0))) (g5 : rows.length ≤ cap) (g6 : cap ≤ maxLen) (g7 : xs.size = cap * k)
  (g8 : ∀ r, r ∈ rows → r.length = k) (g9 : ∀ (i : Nat) (r : List D) (j : Nat) (d : D), rows[i]? = some r → r[j]? = some d → ∃ x, xs[i * k + j]? = some x ∧ RepD O w x d ∧ x.oneCell' = true)
  (hn : n = Nat.min slen len) (hcs : cs.length = n * k) (hsrcl : src.length = n) (hlen : lo + len ≤ rows.length) (hsrc : ∀ j v, cs[j]? = some v → w.cell? (a.add j) = some v)
  (hs1 : ∀ r, r ∈ src → r.length = k) (hs2 : ∀ (i : Nat) (r : List D) (j : Nat) (d : D), src[i]? = some r → r[j]? = some d → ∃ x, cs[i * k + j]? = some x ∧ RepD O w x d ∧ x.oneCell' = true) (hone : ∀ v, v ∈ cs → v.oneCell' = true) :
  ∃ w', (Builtin.copy_ #[t1, t2] ty #[.slice (some ⟨b, lo * k, none⟩) len dcap, .slice (some a) slen scap]).run P w = .ok (goInt n) w' ∧ Keep (some h) none O H w O H w' ∧ Below B w w' ∧ MHold O H B w' h (.own k T (rows.take lo ++ src ++ rows.drop (lo + n))) := by
 obtain ⟨e1, i, hi1, hi2⟩ := esz_spec hk
 have hmin : n ≤ len := by rw [hn]; exact Nat.min_le_right _ _
 have hln : lo + n ≤ cap := by omega
 have hmul : lo * k + n * k ≤ cap * k := by rw [← Nat.add_mul]; exact Nat.mul_le_mul_right k hln
 have hrun := run_copy_rowK (P := P) w t1 t2 ty (P.elem t1) b (lo * k) len dcap a slen scap k n xs T cs e1 (by rw [hi1]; simp [hi2]) g4 hn hcs hsrc (by rw [hcs, g7]; exact hmul) hone
 have hke := Keep.setRow (O := O) (H := H) (w := w) (cs := (xs.toList.take (lo * k) ++ cs ++ xs.toList.drop (lo * k + cs.length)).toArray) g3
 refine ⟨_, hrun, hke, (Below.setRow g2).mono (Nat.le_refl _), ?_⟩
 have hl' : (rows.take lo ++ src ++ rows.drop (lo + n)).length = rows.length := by simp; omega
 have hlok : lo * k ≤ xs.toList.length := by rw [Array.length_toList, g7]; omega
 refine .inr ⟨b, cap, _, by rw [hl']; exact g1, g2, g3, setRow_heap w b xs _ T _ g4, by rw [hl']; exact g5, g6, by simp [hcs]; omega, fun r hr => ?_, fun i r j d hi hj => ?_⟩
 ·simp only [List.mem_append] at hr
  rcases hr with (hr | hr) | hr
  ·exact g8 r (List.mem_of_mem_take hr)
  ·exact hs1 r hr
  ·exact g8 r (List.mem_of_mem_drop hr)
 ·have hrl : r.length = k := by
   have hr := List.mem_of_getElem? hi
   simp only [List.mem_append] at hr
   rcases hr with (hr | hr) | hr
   ·exact g8 r (List.mem_of_mem_take hr)
   ·exact hs1 r hr
   ·exact g8 r (List.mem_of_mem_drop hr)
  have hjk : j < k := by have := (List.getElem?_eq_some_iff.1 hj).1; omega
  have hrow : ∀ m : Nat, i < m → i * k + j < m * k := fun m hm => by
   have h1 := Nat.mul_le_mul_right k (show i + 1 ≤ m from hm); rw [Nat.add_mul, Nat.one_mul] at h1; omega
  have hrow2 : ∀ m : Nat, m ≤ i → m * k ≤ i * k := fun m hm => Nat.mul_le_mul_right k hm
  simp only [List.getElem?_toArray]
  by_cases h1 : i < lo
  ·have hlt := hrow lo h1
   rw [List.append_assoc, List.getElem?_append_left (by simp; omega), List.getElem?_take_of_lt h1] at hi
   obtain ⟨x, hx, hr, ho⟩ := g9 i r j d hi hj
   refine ⟨x, ?_, hr.mono hke.keeps, ho⟩
   rw [List.append_assoc, List.getElem?_append_left (by simp; omega), List.getElem?_take_of_lt hlt]
   simpa using hx
  ·have h1 : lo ≤ i := by omega
   have hlo := hrow2 lo h1
   by_cases h2 : i < lo + n
   ·rw [List.append_assoc, List.getElem?_append_right (by simp; omega), List.getElem?_append_left (by simp; omega)] at hi
    obtain ⟨x, hx, hr, ho⟩ := hs2 _ r j d hi hj
    have hlt := hrow (lo + n) h2
    rw [Nat.add_mul] at hlt
    refine ⟨x, ?_, hr.mono hke.keeps, ho⟩
    rw [List.append_assoc, List.getElem?_append_right (by simp; omega), List.getElem?_append_left (by simp; omega)]
    simp only [List.length_take] at hx ⊢
    rw [Nat.min_eq_left (by omega)] at hx
    rw [Nat.min_eq_left hlok]
    rw [Nat.sub_mul] at hx
    have : i * k + j - lo * k = i * k - lo * k + j := by omega
    rw [this]; exact hx
   ·have h2 : lo + n ≤ i := by omega
    have hlo2 := hrow2 (lo + n) h2
    rw [Nat.add_mul] at hlo2
    rw [List.getElem?_append_right (by simp; omega), List.getElem?_drop] at hi
    have e1 : lo + n + (i - (List.take lo rows ++ src).length) = i := by simp; omega
    rw [e1] at hi
    obtain ⟨x, hx, hr, ho⟩ := g9 i r j d hi hj
    refine ⟨x, ?_, hr.mono hke.keeps, ho⟩
    rw [List.getElem?_append_right (by simp; omega), List.getElem?_drop]
    have e2 : lo * k + cs.length + (i * k + j - (List.take (lo * k) xs.toList ++ cs).length) = i * k + j := by
     simp only [List.length_append, List.length_take]
     rw [Nat.min_eq_left hlok]; omega
    rw [e2]
    simpa using hx
theorem OpSt.copyOK {k t1 t2 T h : Nat} {x y : Operand} {rows src : List (List D)} (hkp : 0 < k) (ho : o.op = .call { callee := .builtin .copy, args := #[x, y], argTypes := #[t1, t2] }) (hx : opS e x = some (.o h)) (hy : opS e y = some (.d (.s k src)))
  (hk : esz P t1 = some k) (hone : ∀ r, r ∈ src → r.all D.one = true) (h1 : 0 < src.length) (h2 : src.length ≤ rows.length) :
  OpSt P B o e h (.own k T rows) (.own k T (src ++ rows.drop src.length)) (.d (.v (.int .i64 src.length))) := by
 intro O H a w hBw hsl hm K hK
 have hx' := hsl x (by simp [ho, Op.operands, Call.operands]) _ hx
 have hy' := hsl y (by simp [ho, Op.operands, Call.operands]) _ hy
 obtain ⟨b, cap, xs, g1, g2, g3, g4, g5, g6, g7, g8, g9⟩ := hm.ownSome (by omega)
 generalize hv : a.eval x = v at hx'
 generalize hu : a.eval y = u at hy'
 cases hx' with
 | o h h1' =>
  cases hy' with
  | d _ _ hy' =>
   obtain ⟨ad, c, hvv, hc, hcm⟩ := hy'.slice
   cases ad with
   | none => exact absurd (hy'.noneNil hvv) (by intro e; rw [e] at h1; simp at h1)
   | some ad =>
    subst hvv
    obtain ⟨_, vals, ⟨v1, v2, v3⟩, hcell⟩ := hy'.cellsL hkp
    have hmin : src.length = Nat.min src.length rows.length := (Nat.min_eq_left h2).symm
    have hval : ∀ (i : Nat) (r : List D) (j : Nat) (d : D), src[i]? = some r → r[j]? = some d → ∃ x, vals[i * k + j]? = some x ∧ RepD O w x d ∧ x.oneCell' = true := fun i r j d hi hd => by
     obtain ⟨x, hx, hr⟩ := v3 i r j d hi hd
     refine ⟨x, hx, hr, hr.one' ?_⟩
     exact List.all_eq_true.1 (hone r (List.mem_of_getElem? hi)) d (List.mem_of_getElem? hd)
    have hall : ∀ z, z ∈ vals → z.oneCell' = true := fun z hz => by
     obtain ⟨i, hi⟩ := List.getElem?_of_mem hz
     have hlt : i < src.length * k := by have := (List.getElem?_eq_some_iff.1 hi).1; omega
     have hk0 : 0 < k := by
      rcases Nat.eq_zero_or_pos k with h | h
      ·subst h; simp at hlt
      ·exact h
     have hdm : i / k * k + i % k = i := by rw [Nat.mul_comm]; exact Nat.div_add_mod i k
     have hir : i / k < src.length := (Nat.div_lt_iff_lt_mul hk0).2 hlt
     have hrl := v2 src[i / k] (List.getElem_mem hir)
     have hjm : i % k < src[i / k].length := by rw [hrl]; exact Nat.mod_lt _ hk0
     obtain ⟨x, hx, _, ho⟩ := hval (i / k) src[i / k] (i % k) (src[i / k][i % k]) (List.getElem?_eq_getElem hir) (List.getElem?_eq_getElem hjm)
     rw [hdm, hi] at hx; cases hx; exact ho
    obtain ⟨w', hrun, hke, hbe, hmh⟩ := copy_coreK (P := P) (B := B) (t2 := t2) (ty := o.type) (lo := 0) (dcap := cap) (scap := c) (n := src.length) (cs := vals) (src := src) (slen := src.length) (len := rows.length) (a := ad) hk g1 g2 g3 g4 g5 g6 g7 g8 g9 hmin v1 rfl (by omega) hcell v2 hval hall
    rw [Nat.zero_mul] at hrun
    have hex : (execOp a.eval o).run P w = .ok (.value (goInt src.length)) w' := by rw [g1] at hv; simp [execOp, ho, resolve, invoke, builtin, hv, hu, hrun]
    unfold Oper.wp
    rw [hex]
    refine hK w' _ hke hbe ?_ (by unfold goInt; exact .d _ _ (.v _))
    simpa using hmh
theorem OpSt.copyWK {k t1 t2 T h lo len lo2 len2 : Nat} {x y : Operand} {rows : List (List D)} (ho : o.op = .call { callee := .builtin .copy, args := #[x, y], argTypes := #[t1, t2] }) (hx : opS e x = some (.w h k lo len)) (hy : opS e y = some (.w h k lo2 len2))
  (hk : esz P t1 = some k) (h1 : lo + len ≤ rows.length) (h2 : lo2 + len2 ≤ rows.length) (h3 : 0 < rows.length) :
  OpSt P B o e h (.own k T rows) (.own k T (rows.take lo ++ (rows.drop lo2).take (min len2 len) ++ rows.drop (lo + min len2 len))) (.d (.v (.int .i64 (min len2 len : Nat)))) := by
 intro O H a w hBw hsl hm K hK
 have hx' := hsl x (by simp [ho, Op.operands, Call.operands]) _ hx
 have hy' := hsl y (by simp [ho, Op.operands, Call.operands]) _ hy
 obtain ⟨b, cap, xs, g1, g2, g3, g4, g5, g6, g7, g8, g9⟩ := hm.ownSome h3
 obtain ⟨n, hn⟩ : ∃ n, n = min len2 len := ⟨_, rfl⟩
 have hn1 : n ≤ len2 := by rw [hn]; exact Nat.min_le_left _ _
 generalize hv : a.eval x = v at hx'
 generalize hu : a.eval y = u at hy'
 rw [← hn] at hK
 cases hx' with
 | w h b1 k lo len L C hH hl =>
  cases hy' with
  | w h b2 k lo2 len2 L2 C2 hH2 hl2 =>
   rw [g1] at hH hH2
   simp only [Value.slice.injEq, Option.some.injEq, Addr.mk.injEq, and_true] at hH hH2
   obtain ⟨rfl, rfl, rfl⟩ := hH
   obtain ⟨rfl, _, _⟩ := hH2
   have hcut : ∀ (i j : Nat), i < n → j < k → ((xs.toList.drop (lo2 * k)).take (n * k))[i * k + j]? = xs[(lo2 + i) * k + j]? := fun i j hi hj => by
    have h1 : i * k + j < n * k := by
     have h1 := Nat.mul_le_mul_right k (show i + 1 ≤ n from hi); rw [Nat.add_mul, Nat.one_mul] at h1; omega
    rw [List.getElem?_take_of_lt h1, List.getElem?_drop, Nat.add_mul, Array.getElem?_toList, Nat.add_assoc]
   have hl3 : ((xs.toList.drop (lo2 * k)).take (n * k)).length = n * k := by
    have : lo2 * k + n * k ≤ cap * k := by rw [← Nat.add_mul]; exact Nat.mul_le_mul_right k (by omega)
    simp only [List.length_take, List.length_drop, Array.length_toList, g7]; omega
   have hl1 : ((rows.drop lo2).take n).length = n := by simp; omega
   have hs1 : ∀ r, r ∈ (rows.drop lo2).take n → r.length = k := fun r hr => g8 r (List.mem_of_mem_drop (List.mem_of_mem_take hr))
   have hval : ∀ (i : Nat) (r : List D) (j : Nat) (d : D), ((rows.drop lo2).take n)[i]? = some r → r[j]? = some d → ∃ x, ((xs.toList.drop (lo2 * k)).take (n * k))[i * k + j]? = some x ∧ RepD O w x d ∧ x.oneCell' = true := fun i r j d hi hd => by
    have hin : i < n := by have := (List.getElem?_eq_some_iff.1 hi).1; simp at this; omega
    have hrl := hs1 r (List.mem_of_getElem? hi)
    have hjk : j < k := by have := (List.getElem?_eq_some_iff.1 hd).1; omega
    rw [List.getElem?_take_of_lt hin, List.getElem?_drop] at hi
    obtain ⟨x, hx, hr, ho⟩ := g9 (lo2 + i) r j d hi hd
    exact ⟨x, by rw [hcut i j hin hjk]; exact hx, hr, ho⟩
   have hall : ∀ z, z ∈ (xs.toList.drop (lo2 * k)).take (n * k) → z.oneCell' = true := fun z hz => by
    obtain ⟨i, hi⟩ := List.getElem?_of_mem hz
    have hlt : i < n * k := by rw [← hl3]; exact (List.getElem?_eq_some_iff.1 hi).1
    have hk0 : 0 < k := by
     rcases Nat.eq_zero_or_pos k with h | h
     ·subst h; simp at hlt
     ·exact h
    have hdm : i / k * k + i % k = i := by rw [Nat.mul_comm]; exact Nat.div_add_mod i k
    have hir : i / k < ((rows.drop lo2).take n).length := by rw [hl1]; exact (Nat.div_lt_iff_lt_mul hk0).2 hlt
    have hrl := hs1 _ (List.getElem_mem hir)
    have hjm : i % k < ((rows.drop lo2).take n)[i / k].length := by rw [hrl]; exact Nat.mod_lt _ hk0
    obtain ⟨x, hx, _, ho⟩ := hval (i / k) _ (i % k) _ (List.getElem?_eq_getElem hir) (List.getElem?_eq_getElem hjm)
    rw [hdm, hi] at hx; cases hx; exact ho
   have hsrc : ∀ j v, ((xs.toList.drop (lo2 * k)).take (n * k))[j]? = some v → w.cell? ((⟨b, lo2 * k, none⟩ : Addr).add j) = some v := fun j v hj => by
    have hin : j < n * k := by have := (List.getElem?_eq_some_iff.1 hj).1; omega
    rw [List.getElem?_take_of_lt hin, List.getElem?_drop] at hj
    rw [Addr.add_lit]
    exact cellOf g4 (by simpa using hj)
   obtain ⟨w', hrun, hke, hbe, hmh⟩ := copy_coreK (P := P) (B := B) (t2 := t2) (ty := o.type) (lo := lo) (dcap := cap - lo) (scap := C2 - lo2) (n := n) (cs := (xs.toList.drop (lo2 * k)).take (n * k)) (src := (rows.drop lo2).take n) (slen := len2) (len := len) (a := ⟨b, lo2 * k, none⟩) hk g1 g2 g3 g4 g5 g6 g7 g8 g9 hn hl3 hl1 h1 hsrc hs1 hval hall
   have hex : (execOp a.eval o).run P w = .ok (.value (goInt n)) w' := by simp [execOp, ho, resolve, invoke, builtin, hv, hu, hrun]
   unfold Oper.wp
   rw [hex]
   exact hK w' _ hke hbe hmh (by unfold goInt; exact .d _ _ (.v _))
end
abbrev chC (x : Int × Nat) : List D := [.v (.int .i64 x.1), .v (.int .i64 (x.2 : Int))]
abbrev chS (x : Int × Nat) : S := .g [I x.1, I (x.2 : Int)]
abbrev chsD (l : List (Int × Nat)) : D := .s 2 (l.map chC)
def rpT (c : Int × Nat) (n k : Nat) : List (Int × Nat) := List.replicate k c ++ List.replicate (n - k) (0, 0)
theorem rpT_len {c : Int × Nat} {n k : Nat} (h : k ≤ n) : (rpT c n k).length = n := by simp [rpT]; omega
theorem rpT_end {c : Int × Nat} {n : Nat} : rpT c n n = List.replicate n c := by simp [rpT]
theorem rpT_s {c : Int × Nat} {n k m : Nat} (h : k + m ≤ n) (hm : m ≤ k) : (rpT c n k).take k ++ (rpT c n k).take m ++ (rpT c n k).drop (k + m) = rpT c n (k + m) := by
 unfold rpT
 rw [List.take_append_of_le_length (by simp), List.take_append_of_le_length (by simpa using hm), List.drop_append]
 simp only [List.take_replicate, List.drop_replicate, List.length_replicate, Nat.min_self]
 rw [Nat.min_eq_left hm, List.replicate_append_replicate, show k - (k + m) = 0 by omega]
 simp only [List.replicate_zero, List.nil_append]
 congr 2; omega
theorem chs_at {l : List (Int × Nat)} {i : Int} (h0 : 0 ≤ i) (h1 : i < l.length) : (l.map chC)[i.toNat]? = some (chC (nth l i)) := by
 obtain ⟨n, rfl⟩ := Int.eq_ofNat_of_zero_le h0
 have : n < l.length := by omega
 simp [nth_eq this, this]
end Go.Eng
end

section
namespace Go.Eng
theorem map_setCh {L : List (Int × Nat)} {n : Nat} {x : Int × Nat} (h : n < L.length) : (L.map chC).take (n : Int).toNat ++ [chC x] ++ (L.map chC).drop ((n : Int).toNat + 1) = (L.set n x).map chC := by
 rw [List.set_eq_take_append_cons_drop, if_pos h]
 simp
section
variable {sets : List (List Int)} {cs : List Int} {tab : List (Int × Nat)} {c : Int} {e h n k j : Nat}
theorem HbP.rng (hP : HbP sets cs k tab) (hk : k ≤ 16) (hkc : k ≤ cs.length) (hc : ∀ i : Nat, i < cs.length → 0 ≤ nth cs i ∧ nth cs i ≤ 100) {m : Nat} (hm : m < 2 ^ sets.length) : 0 ≤ (nth tab m).1 ∧ (nth tab m).1 ≤ 1000000000 ∧ (nth tab m).2 < 2 ^ 62 := by
 have h2 : (2 : Nat) ^ k ≤ 2 ^ 16 := Nat.pow_le_pow_right (by omega) hk
 rcases hP.s m hm with q | ⟨q, H, h1, h3, _, h4⟩
 ·rw [q]; simp [noCh]
 ·have h5 := coL_rng hc (H := H) fun e he => by have := h3 e he; omega
  have h6 := pwN_len (a := 0) h1 fun e he => ⟨by omega, h3 e he⟩
  omega
theorem hbN_t (h1 : nth tab j ≠ noCh) (h2 : chLess (chY (nth tab j) c e) (nth (hbN tab c e h j) ((j ||| h : Nat) : Int))) : hbN tab c e h (j + 1) = (hbN tab c e h j).set (j ||| h) (chY (nth tab j) c e) := by simp only [hbN]; rw [if_pos ⟨h1, h2⟩]
theorem hbN_f (h2 : ¬ (nth tab j ≠ noCh ∧ chLess (chY (nth tab j) c e) (nth (hbN tab c e h j) ((j ||| h : Nat) : Int)))) : hbN tab c e h (j + 1) = hbN tab c e h j := by simp only [hbN]; rw [if_neg h2]
theorem ch_ne {x : Int × Nat} : x ≠ noCh ↔ ¬ (x.1 = 1000000000 ∧ (x.2 : Int) = 0) := by
 constructor
 ·intro h q; exact h (by obtain ⟨a, b⟩ := x; obtain ⟨q1, q2⟩ := q; simp only at q1 q2; subst q1; obtain rfl : b = 0 := (by omega); rfl)
 ·intro h q; subst q; exact h ⟨rfl, rfl⟩
theorem htN_t {i : Nat} (hm : (e : Int) ∈ nth sets i) : htN sets e (i + 1) = htN sets e i ||| 2 ^ i := by simp only [htN]; rw [if_pos hm]
theorem htN_f {i : Nat} (hm : (e : Int) ∉ nth sets i) : htN sets e (i + 1) = htN sets e i := by simp only [htN]; rw [if_neg hm]
end
section
variable {t : Tsk} {s : List Int} {m : Cuts} {U : List Int}
theorem hiUT_s {k : Nat} (hk : k < m.length) : hiUT m (k + 1) = hiUT m k ++ (nth m k).1 := by unfold hiUT; rw [fm_s hk]
theorem hiC_s {k : Nat} (hk : k < U.length) : hiC t U (k + 1) = hiC t U k ++ [(nth t.ops (nth U k)).cost] := by unfold hiC; rw [tk_s hk]; simp
theorem hiST_s {l : List Int} {k : Nat} (hk : k < l.length) : hiST U l (k + 1) = hiST U l k ++ [((lbd U (nth l k) : Nat) : Int)] := by unfold hiST; rw [tk_s hk]; simp
theorem hiS_s {k : Nat} (hk : k < m.length) : hiS U m (k + 1) = hiS U m k ++ [hiST U (nth m k).1 (nth m k).1.length] := by unfold hiS; rw [tk_s hk]; simp
theorem hi_cuts (h0 : sttF t s = (0, 0)) (hT : (cutW t s).2 ≠ 1000000000) : CutsP t s (cssF t) (cutW t s).1 ∧ (cutW t s).2 = sumC (cutW t s).1 := by
 obtain ⟨hV, hS⟩ := sttF_ok h0
 have hs : ∀ p, p ∈ s → 0 ≤ p ∧ p < t.facts := fun p hp => setP_mem hS hp
 rw [cutW_0 h0] at hT ⊢
 rcases fn_spec (fnW_ok hV hs) ⟨hV, hs, css_v hV⟩ with ⟨h1, _⟩ | ⟨m, h1, h2⟩
 ·rw [h1] at hT; exact absurd rfl hT
 ·rw [h1]; simp only [List.nil_append, Int.zero_add]; exact ⟨h2, trivial⟩
theorem pwI_len {n : Int} (h0 : 0 ≤ n) : ∀ {l : List Int} {a : Int}, l.Pairwise (· < ·) → (∀ x, x ∈ l → a ≤ x ∧ x < n) → 0 ≤ a → (l.length : Int) ≤ max 0 (n - a)
 | [], a, _, _, _ => by simp; omega
 | x :: l, a, hp, hr, ha => by
  rw [List.pairwise_cons] at hp
  have h1 := hr x (by simp)
  have h2 := pwI_len h0 (l := l) (a := x + 1) hp.2 (fun y hy => ⟨by have := hp.1 y hy; omega, (hr y (by simp [hy])).2⟩) (by omega)
  simp only [List.length_cons]; omega
theorem CutsP.len (hC : CutsP t s (cssF t) m) (hV : TskV t) : m.length ≤ 4000 ∧ ∀ c, c ∈ m → c.1.length ≤ 40 := by
 have h1 := hC.n
 have h2 := hC.m
 have h3 := (css_v hV).sum
 have h4 := hV.ops
 refine ⟨by omega, fun c hc => ?_⟩
 obtain ⟨_, _, g1, g2, _⟩ := hC.e c hc
 have := pwI_len (n := t.ops.length) (by omega) g1 g2 (Int.le_refl _)
 omega
theorem hiUT_len (h : ∀ c, c ∈ m → c.1.length ≤ 40) : ∀ {k : Nat}, k ≤ m.length → (hiUT m k).length ≤ 40 * k
 | 0, _ => by simp [hiUT]
 | k + 1, hk => by
  have ih := hiUT_len h (k := k) (by omega)
  have := h (nth m k) (nth_mem (by omega) (by omega))
  rw [hiUT_s (by omega), List.length_append]; omega
theorem hiU_len (h : ∀ c, c ∈ m → c.1.length ≤ 40) : (hiU m).length ≤ 40 * m.length := by
 have := hiUT_len h (Nat.le_refl _)
 unfold hiU
 have := dd_len (l := sortI (hiUT m m.length))
 rw [sortI_len] at this; omega
theorem hi_1 (h : sttF t s ≠ (0, 0) ∨ (cutW t s).2 = 1000000000) : (cutW t s).2 = hiR t s ∧ sttF t s = hiE t s := by unfold hiR hiE; rw [if_pos h, if_pos h]; exact ⟨rfl, rfl⟩
theorem hi_2 (h : ¬ (sttF t s ≠ (0, 0) ∨ (cutW t s).2 = 1000000000)) (h2 : hiL (cutW t s).1) : 0 = hiR t s ∧ (10, -8) = hiE t s := by unfold hiR hiE; rw [if_neg h, if_neg h, if_pos h2, if_pos h2]; exact ⟨rfl, rfl⟩
theorem hi_0 (h : ¬ (sttF t s ≠ (0, 0) ∨ (cutW t s).2 = 1000000000)) (h2 : ¬ hiL (cutW t s).1) : hiV t (cutW t s).1 = hiR t s ∧ (0, 0) = hiE t s := by unfold hiR hiE; rw [if_neg h, if_neg h, if_neg h2, if_neg h2]; exact ⟨rfl, rfl⟩
theorem hiC_rng (hV : TskV t) (hU : ∀ x, x ∈ U → 0 ≤ x ∧ x < t.ops.length) : ∀ i : Nat, i < (hiC t U U.length).length → 0 ≤ nth (hiC t U U.length) i ∧ nth (hiC t U U.length) i ≤ 100 := fun i hi => by
 have hi : i < U.length := by simpa [hiC] using hi
 rw [hiC_at hi]
 have := hU _ (nth_mem (l := U) (n := (i : Int)) (by omega) (by omega))
 obtain ⟨k, hk⟩ := Int.eq_ofNat_of_zero_le this.1
 rw [hk]
 exact (hV.op k (by omega)).2
end
end Go.Eng
end

section
namespace Go.Proofs.YthjmgcopfipabaaGreat
open Go.Eng
set_option maxRecDepth 10000
set_option maxHeartbeats 1000000
theorem slices_Repeat_hitting_choice_hitting_choice_does (c : Int × Nat) (n : Int) (h0 : 1 ≤ n) (h1 : n ≤ 70000) : DoesO Tryz.prog 53 [.d (chsD ([c] : List (Int × Nat))), I (n)] 2 62 (((List.replicate n.toNat c).map chC)) := by
 refine DoesO.of_body Tryz.func53 rfl rfl (by simp) Tryz.call53 (fun w0 O0 => ?_); refine .le 0 fun len0 => ?_; refine .g <| .r <| .a ?_; refine .sq <| .g <| .g <| .r <| .m ?_; refine .x (.b blss) ?_; refine .sq <| .condF rfl (by simp; omega) ?_; refine .p <| .z <| .m ?_; refine .x (OpSem.le (s' := I 1) (.n es103) (Le.of_eq rfl)) ?_; refine .x (OpSem.conv rfl rfl cv3_101 (wrap_u64 (by omega) (by omega))) ?_; refine .m ?_; refine .x (OpSem.conv rfl rfl cv3_101 (wrap_u64 (by omega) (by omega))) ?_; refine .x (OpSem.call0 (math_bits_Mul_does n (by omega) (by omega)) rfl rfl rfl rfl (Les.refl _)) ?_; refine .m ?_; refine .x .xt ?_; refine .x .xt ?_; refine .a ?_; refine .a ?_; refine .sq <| .g <| .g <| .r <| .m ?_; refine .x (.b bgtrK) ?_; refine .m ?_; refine .gT rfl rfl rfl rfl (by decide) ?_; refine .m ?_; refine .gT rfl rfl rfl rfl (by decide) ?_; refine .x (.b bgtrK) ?_; refine .x (OpSem.pickF rfl rfl (by decide) rfl) ?_; refine .sq <| .condF rfl (by simp; omega) ?_; refine .p <| .z <| .m ?_; refine .x (OpSem.conv rfl rfl cv101_3 (wrap_i64 (by omega) (by omega))) ?_; refine .semM (OpSem.makeSlice 30 rfl rfl rfl es103 ze103 rfl rfl (by decide) bye103 (by omega) (by simp; omega) (by omega)) rfl rfl (by decide) ?_; refine .a ?_; refine .z <| .mm ?_; refine .ofSt (OpSt.le (s' := I 1) (OpSt.copyOK (by decide) rfl rfl rfl es103 (by simp [chC, D.one, Value.oneCell']) (by simp) (by simp; omega)) (Le.of_eq rfl)) rfl rfl rfl (by decide) ?_; refine .a ?_; refine .sq <| .g <| .k <| .loop (X := Nat) (fun k => 1 ≤ k ∧ k ≤ n.toNat) (fun k => [(7, .o 30), (8, I (k))]) (fun k => [(30, .own 2 62 ((rpT c n.toNat k).map chC))]) (fun k => n.toNat - k) 1 ⟨by omega, by omega⟩ ?_ ?_
 ·exact .sl <| .slot rfl (Le.of_eq (by simp)) <| .memEq rfl (by simp [rpT, chC, el103]) <| .nil
 ·rintro k ⟨hk1, hk2⟩
  refine .g <| .g <| .r <| .mm ?_; refine .x (OpSem.leno rfl rfl rfl es103) ?_; refine .x (.b blss) ?_; refine .sq <| .cond rfl (fun c37 => ?_) (fun c37 => ?_)
  ·have hk : k < n.toNat := by simp [rpT_len hk2] at c37; omega
   refine .p <| .g <| .k <| .toWin 7 rfl rfl (by simp [rpT_len hk2]; omega) ?_; refine PC.start [30] ?_; refine .mm ?_; refine .m ?_; refine .x (OpSem.slicewL rfl rfl rfl es103 (by omega) (by simp [rpT_len hk2]; omega)) ?_; refine .mm ?_; refine .x (OpSem.slicewH rfl rfl rfl es103 (by omega) (by simp [rpT_len hk2]; omega) (by simp [rpT_len hk2]; omega)) ?_; refine .ofSt (OpSt.le (s' := I ((min k (n.toNat - k) : Nat) : Int)) (OpSt.copyWK rfl rfl rfl es103 (by simp [rpT_len hk2]; omega) (by simp [rpT_len hk2]; omega) (by simp [rpT_len hk2]; omega)) (Le.i (by simp [rpT_len hk2]))) rfl rfl rfl ?_; refine .dn mixed ?_; refine .x .ad ?_; refine .a ?_; refine .n <| .n <| .ofWin 7 rfl rfl (by simp [rpT_len hk2]; omega) (by simp [rpT_len hk2]; omega) ?_; refine .again (k + min k (n.toNat - k)) ⟨by omega, by omega⟩ ?_ (by omega); exact .sl <| .slot rfl (Le.i (by simp)) <| .memEq rfl (by rw [← rpT_s (c := c) (n := n.toNat) (k := k) (m := min k (n.toNat - k)) (by omega) (by omega)]; simp [rpT_len hk2]) <| .nil
  ·have hk : k = n.toNat := by simp [rpT_len hk2] at c37; omega
   refine .u <| .u <| .u <| .b <| .z <| .m ?_; refine .a ?_; exact .sq <| .t <| .retO2 rfl rfl rfl (by simp) (by rw [hk, rpT_end])
theorem slices_Clone_hitting_choice_hitting_choice_does (l : List (Int × Nat)) (hl : l.length ≤ 1000000) : DoesO Tryz.prog 55 [.d (chsD l)] 2 62 ((l.map chC)) := by
 refine DoesO.of_body Tryz.func55 rfl rfl (by simp) Tryz.call55 (fun w0 O0 => ?_); refine .le 0 fun len0 => ?_; refine .g <| .r <| .a ?_; refine .sq <| .g <| .g <| .r <| .m ?_; refine .eqNil rfl rfl es103 rfl rfl (by decide) (fun b4 hb4 => ?_); refine .sq <| .cond rfl (fun c4 => ?_) (fun c4 => ?_)
 ·refine .g <| .r <| .a ?_; exact .sq <| .t <| .t <| .retONil rfl rfl (hb4 c4)
 ·refine .p <| .z <| .semM (OpSem.buildO 5 rfl es103 (by decide)) rfl rfl (by decide) ?_; refine .m ?_; refine .append rfl rfl rfl (by decide) rfl rfl rfl es103 el103 zc62 rfl by62 (by intro r hr; obtain ⟨y, _, rfl⟩ := List.mem_map.1 hr; simp [chC, D.one, Value.oneCell']) (by simp [maxLen]; omega) (by simp; omega) ?_; refine .a ?_; exact .sq <| .t <| .retO2 rfl rfl rfl (by simp) (by simp)
theorem hitting_choice_less_does (a b : Int × Nat) : Does Tryz.prog false 56 [chS a, chS b] (Bo (decide (chLess a b))) := by
 refine Does.of_body Tryz.func56 rfl rfl (by simp) Tryz.call56 (fun w0 O0 => ?_); refine .g <| .r <| .bx 2 ?_; refine .bx 3 ?_; refine .a ?_; refine .z <| .x (.f fo62_0) ?_; refine .x (.l vs3) ?_; refine .x (.f fo62_0) ?_; refine .x (.l vs3) ?_; refine .x (.b blss) ?_; refine .m ?_; refine .split (n := 10) rfl (fun c10 => ?_) (fun c10 => ?_)
 ·refine .hf c10 ?_; refine .hf c10 ?_; refine .hf c10 ?_; refine .hf c10 ?_; refine .hf c10 ?_; refine .hf c10 ?_; refine .gu ?_; refine .gu ?_; refine .gu ?_; refine .gu ?_; refine .gu ?_; refine .hf c10 ?_; refine .x (OpSem.pickT rfl rfl c10 rfl) ?_; refine .a ?_; exact .sq <| .t <| .ret rfl (.tmp rfl <| .nil) rfl (Le.bo (decide_eq_true (.inl (by simpa using c10))).symm)
 ·refine .ht c10 ?_; refine .x (.f fo62_0) ?_; refine .ht c10 ?_; refine .x (.l vs3) ?_; refine .ht c10 ?_; refine .x (.f fo62_0) ?_; refine .ht c10 ?_; refine .x (.l vs3) ?_; refine .ht c10 ?_; refine .x (.b beql) ?_; refine .ht c10 ?_; refine .m ?_; refine .split (n := 16) rfl (fun c16 => ?_) (fun c16 => ?_)
  ·refine .gt c16 ?_; refine .x (.f fo62_1) ?_; refine .gt c16 ?_; refine .x (.l vs3) ?_; refine .gt c16 ?_; refine .x (.f fo62_1) ?_; refine .gt c16 ?_; refine .x (.l vs3) ?_; refine .gt c16 ?_; refine .x (.b blss) ?_; refine .ht c10 ?_; refine .x (OpSem.pickT rfl rfl c16 rfl) ?_; refine .x (OpSem.pickF rfl rfl c10 rfl) ?_; refine .a ?_; exact .sq <| .t <| .ret rfl (.tmp rfl <| .nil) rfl (Le.bo (decide_eq_decide.2 ⟨fun h => .inr ⟨by simpa using c16, by omega⟩, fun h => h.elim (fun h => absurd h (by simpa using c10)) (fun h => by omega)⟩))
  ·refine .gf c16 ?_; refine .gf c16 ?_; refine .gf c16 ?_; refine .gf c16 ?_; refine .gf c16 ?_; refine .ht c10 ?_; refine .x (OpSem.pickF rfl rfl c16 rfl) ?_; refine .x (OpSem.pickF rfl rfl c10 rfl) ?_; refine .a ?_; exact .sq <| .t <| .ret rfl (.tmp rfl <| .nil) rfl (Le.bo (decide_eq_false (fun h => h.elim (by simpa using c10) (fun h => absurd h.1 (by simpa using c16)))).symm)
theorem hitting_best_does (sets : List (List Int)) (cs : List Int) (hsl : sets.length ≤ 16) (hcl : cs.length ≤ 16) (hc : ∀ i : Nat, i < cs.length → 0 ≤ nth cs i ∧ nth cs i ≤ 100) : Does Tryz.prog false 26 [.d (rows sets), .d (ints cs)] (chS (hbF sets cs)) := by
 have hpw : (2 : Nat) ^ sets.length ≤ 2 ^ 16 := Nat.pow_le_pow_right (by omega) hsl
 have hpp : 0 < (2 : Nat) ^ sets.length := Nat.pow_pos (by omega)
 have hb0l : (hb0 sets.length).length = 2 ^ sets.length := by simp [hb0]
 refine Does.of_body Tryz.func26 rfl rfl (by simp) Tryz.call26 (fun w0 O0 => ?_); refine .le 0 fun len0 => ?_; refine .le 1 fun len1 => ?_; refine .g <| .r <| .al 4 zc62 ?_; refine .z <| .x (.bd pl62 zc62) ?_; refine .al 5 zc62 ?_; refine .sb vs62 ?_; refine .sq <| .g <| PC.start [] ?_; refine .x (.L vs62) ?_; refine .x (OpSem.le (s' := .d (chsD [noCh])) (.bs es103 ze103) (Le.of_eq rfl)) ?_; refine .m ?_; refine .x (.n es58) ?_; refine .x (OpSem.bin rfl rfl rfl (bshl1 (by omega) (by omega))) ?_; refine .d0 mixed ?_; refine .semM (OpSem.callO 22 (slices_Repeat_hitting_choice_hitting_choice_does noCh ((2 ^ sets.length : Nat) : Int) (by omega) (by omega)) rfl rfl rfl rfl (Les.refl _)) rfl rfl (by decide) ?_; refine .a ?_; refine .z <| .m ?_; refine .x (.bd pl62 zc62) ?_; refine .x (OpSem.idxo rfl rfl rfl rfl es103 (by omega) (by simp only [List.length_map, List.length_replicate, Int.toNat_natCast]; omega)) ?_; refine .ofSt0 (OpSt.storeqN (r' := (chC (0, 0))) rfl rfl rfl rfl vs62 (by simp only [List.length_map, List.length_replicate, Int.toNat_natCast]; omega) rfl) rfl rfl rfl ?_; refine .sq <| .g <| .g <| .memEq (h := 22) (m' := .own 2 62 ((hb0 sets.length).map chC)) rfl (by exact congrArg (Mo.own 2 62) (map_setCh (n := 0) (by simp only [List.length_replicate, Int.toNat_natCast]; omega))) ?_; refine .freeze 22 rfl ?_; refine .r <| .m ?_; refine .x (.n es22) ?_; refine .m ?_; refine .sq <| .k <| .loop (X := Nat) (fun k => k ≤ cs.length) (fun k => [(0, .d (rows sets)), (4, .r 4 0), (5, .r 5 0), (6, .d (chsD (hbO sets cs k))), (26, .d (ints cs)), (27, I (cs.length)), (28, I (k))]) (fun k => [(4, .box [I (0), I (0)]), (5, .box [I (1000000000), I (0)])]) (fun k => cs.length - k) 0 (by omega) ?_ ?_
 ·exact .p3 <| .slot rfl (Le.of_eq rfl) <| .p2 <| .slot rfl (Le.of_eq (by simp)) <| .all
 ·rintro k hkl
  refine .g <| .r <| .x (.b blss) ?_; refine .sq <| .g <| .cond rfl (fun c29 => ?_) (fun c29 => ?_)
  ·have hk : k < cs.length := by simpa using c29
   have hP := hbO_p (sets := sets) (cs := cs) hcl hc (k := k) (by omega)
   have hPl := hP.l
   have hck := hc k hk
   have hhk := htF_lt (sets := sets) (e := k)
   refine .p <| .g <| .g <| .k <| .g <| .r <| .m ?_; refine .x (.i es22) ?_; refine .x (.l1 vs3) ?_; refine .a ?_; refine .a ?_; refine .z <| .a ?_; refine .sq <| .g <| .g <| .r <| .m ?_; refine .x (.n es58) ?_; refine .m ?_; refine .sq <| .k <| .loop (X := Nat) (fun i => i ≤ sets.length) (fun i => [(0, .d (rows sets)), (4, .r 4 0), (5, .r 5 0), (6, .d (chsD (hbO sets cs k))), (7, I (k)), (8, I ((nth cs k))), (9, I ((htN sets k i : Int))), (26, .d (ints cs)), (27, I (cs.length)), (28, I (k)), (33, .d (rows sets)), (34, I (sets.length)), (35, I (i))]) (fun i => [(4, .box [I (0), I (0)]), (5, .box [I (1000000000), I (0)])]) (fun i => sets.length - i) 0 (by omega) ?_ ?_
   ·exact .p5 <| .sl <| .slot rfl (Le.of_eq rfl) <| .p5 <| .slot rfl (Le.of_eq (by simp)) <| .all
   ·rintro i hil
    refine .g <| .r <| .x (.b blss) ?_; refine .sq <| .g <| .cond rfl (fun c36 => ?_) (fun c36 => ?_)
    ·have hi : i < sets.length := by simpa using c36
     have hth := htN_lt (sets := sets) (e := k) (i := i)
     have hpi : (2 : Nat) ^ i ≤ 2 ^ 16 := Nat.pow_le_pow_right (by omega) (by omega)
     refine .p <| .g <| .g <| .k <| .g <| .r <| .m ?_; refine .x (.i es58) ?_; refine .x (.l1 vs22) ?_; refine .a ?_; refine .a ?_; refine .z <| .mm ?_; refine .x (OpSem.call0 (slices_Contains_int_int_does (nth sets i) k) rfl rfl rfl rfl (Les.refl _)) ?_; refine .sq <| .cond rfl (fun c42 => ?_) (fun c42 => ?_)
     ·have hst := htN_t (sets := sets) (e := k) (i := i) (of_decide_eq_true c42)
      refine .r <| .mm ?_; refine .x (OpSem.bin rfl rfl rfl (bshl1 (by omega) (by omega))) ?_; refine .x (OpSem.bin rfl rfl rfl (bor (by omega) (by simp <;> omega))) ?_; refine .a ?_; refine .n <| .n <| .y <| .x .ad ?_; refine .m ?_; refine .n <| .again (i + 1) (by omega) ?_ (by omega); exact .p5 <| .sl <| .slot rfl (Le.i (by rw [hst]; simp)) <| .p5 <| .slot rfl (Le.of_eq (by simp)) <| .all
     ·have hst := htN_f (sets := sets) (e := k) (i := i) (of_decide_eq_false c42)
      refine .p <| .n <| .y <| .x .ad ?_; refine .m ?_; refine .n <| .again (i + 1) (by omega) ?_ (by omega); exact .p5 <| .sl <| .slot rfl (Le.i (by rw [hst])) <| .p5 <| .slot rfl (Le.of_eq (by simp)) <| .all
    ·have hi : i = sets.length := by simp at c36; omega
     subst hi
     refine .u <| .u <| .u <| .b <| .z <| .m ?_; refine .semM (OpSem.callO 49 (slices_Clone_hitting_choice_hitting_choice_does (hbO sets cs k) (by omega)) rfl rfl rfl rfl (Les.refl _)) rfl rfl (by decide) ?_; refine .a ?_; refine .sq <| .g <| .g <| .r <| .m ?_; refine .x (.n es103) ?_; refine .m ?_; refine .sq <| .k <| .loop (X := Nat) (fun j => j ≤ 2 ^ sets.length) (fun j => [(0, .d (rows sets)), (4, .r 4 0), (5, .r 5 0), (6, .d (chsD (hbO sets cs k))), (7, I (k)), (8, I ((nth cs k))), (9, I (((htF sets k : Nat) : Int))), (12, .o 49), (26, .d (ints cs)), (27, I (cs.length)), (28, I (k)), (50, .d (chsD (hbO sets cs k))), (51, I ((hbO sets cs k).length)), (52, I (j))]) (fun j => [(49, .own 2 62 ((hbN (hbO sets cs k) (nth cs k) k (htF sets k) j).map chC)), (4, .box [I (0), I (0)]), (5, .box [I (1000000000), I (0)])]) (fun j => 2 ^ sets.length - j) 0 (by omega) ?_ ?_
     ·exact .p5 <| .p5 <| .p3 <| .slot rfl (Le.of_eq (by simp)) <| .memEq rfl rfl <| .all
     ·rintro j hjl
      refine .g <| .r <| .x (.b blss) ?_; refine .sq <| .g <| .cond rfl (fun c53 => ?_) (fun c53 => ?_)
      ·have hj : j < 2 ^ sets.length := by simp at c53; omega
       obtain ⟨hr1, hr2, hr3⟩ := hP.rng (by omega) (by omega) hc hj
       obtain ⟨hn1, hn2, hn3, hn4⟩ := hbN_p (tab := (hbO sets cs k)) (c := (nth cs k)) (e := k) hPl hhk (j := j) (by omega)
       have hor := Nat.or_lt_two_pow hj hhk
       have hpk : (2 : Nat) ^ k ≤ 2 ^ 16 := Nat.pow_le_pow_right (by omega) (by omega)
       refine .p <| .g <| .g <| .k <| .g <| .r <| .m ?_; refine .x (.i es103) ?_; refine .x (.lN vs62) ?_; refine .al 14 zc62 ?_; refine .a ?_; refine .sb vs62 ?_; refine .sq <| .g <| PC.start [] ?_; refine .x (.f fo62_0) ?_; refine .x (.l vs3) ?_; refine .m ?_; refine .x .ad ?_; refine .x (.f fo62_1) ?_; refine .x (.l vs3) ?_; refine .m ?_; refine .x (OpSem.bin rfl rfl rfl (bshl1 (by omega) (by omega))) ?_; refine .x (OpSem.bin rfl rfl rfl (bor (by omega) (by simp <;> omega))) ?_; refine .x (.bd pl62 zc62) ?_; refine .semM (OpSem.alloc 15 rfl zc62 rfl) rfl rfl ?_; refine .d1 15 (.box [I (0), I (0)]) mixed ?_; refine .sb vs62 ?_; refine .sq <| .g <| PC.start [] ?_; refine .x (.L vs62) ?_; refine .x (.L vs62) ?_; refine .x (OpSem.neS2 rfl rfl rfl io62) ?_; refine .m ?_; refine .split (n := 70) rfl (fun c70 => ?_) (fun c70 => ?_)
       ·refine .gt (.L vs62) c70 ?_; refine .gt (OpSem.move (.inl rfl) rfl) c70 ?_; refine .gt (OpSem.move (.inl rfl) rfl) c70 ?_; refine .gt (OpSem.move (.inl rfl) rfl) c70 ?_; refine .gt (OpSem.bin rfl rfl rfl (bor (by omega) (by omega))) c70 ?_; refine .gt (OpSem.idxo rfl rfl rfl rfl es103 (by omega) (by simp; omega)) c70 ?_; refine .gt (OpSem.loadqN (r := (chC (nth (hbN (hbO sets cs k) (nth cs k) k (htF sets k) j) ((j ||| (htF sets k) : Nat) : Int)))) rfl rfl rfl vs62 (chs_at (by omega) (by omega))) c70 ?_; refine .d0 mixed ?_; refine .gt c70 ?_; refine .x (OpSem.call0 (hitting_choice_less_does (chY (nth (hbO sets cs k) j) (nth cs k) k) (nth (hbN (hbO sets cs k) (nth cs k) k (htF sets k) j) ((j ||| (htF sets k) : Nat) : Int))) rfl rfl rfl rfl (Les.refl _)) ?_; refine .x (OpSem.pickT rfl rfl c70 rfl) ?_; refine .sq <| .cond rfl (fun c79 => ?_) (fun c79 => ?_)
        ·have hst := hbN_t (tab := (hbO sets cs k)) (c := (nth cs k)) (e := k) (h := (htF sets k)) (j := j) (ch_ne.2 fun h => by rw [decide_eq_true h] at c70; cases c70) (by simpa using c79)
         refine .r <| .mm ?_; refine .m ?_; refine .x (OpSem.bin rfl rfl rfl (bor (by omega) (by omega))) ?_; refine .x (.L vs62) ?_; refine .x (OpSem.idxo rfl rfl rfl rfl es103 (by omega) (by simp; omega)) ?_; refine .ofSt0 (OpSt.storeqN (r' := (chC (chY (nth (hbO sets cs k) j) (nth cs k) k))) rfl rfl rfl rfl vs62 (by simp; omega) rfl) rfl rfl rfl ?_; refine .n <| .n <| .y <| .x .ad ?_; refine .m ?_; refine .n <| .again (j + 1) (by omega) ?_ (by omega); exact .p5 <| .p5 <| .p3 <| .slot rfl (Le.of_eq (by simp)) <| .memEq rfl (by rw [hst]; exact congrArg (Mo.own 2 62) (map_setCh (by omega))) <| .all
        ·have hst := hbN_f (tab := (hbO sets cs k)) (c := (nth cs k)) (e := k) (h := (htF sets k)) (j := j) (fun h => absurd h.2 (by simpa using c79))
         refine .p <| .n <| .y <| .x .ad ?_; refine .m ?_; refine .n <| .again (j + 1) (by omega) ?_ (by omega); exact .p5 <| .p5 <| .p3 <| .slot rfl (Le.of_eq (by simp)) <| .memEq rfl (by rw [hst] <;> rfl) <| .all
       ·have hst := hbN_f (tab := (hbO sets cs k)) (c := (nth cs k)) (e := k) (h := (htF sets k)) (j := j) (fun h => ch_ne.1 h.1 (by simpa using c70))
        refine .gf c70 ?_; refine .gf c70 ?_; refine .gf c70 ?_; refine .gf c70 ?_; refine .gf c70 ?_; refine .gf c70 ?_; refine .gf c70 ?_; refine .d0 mixed ?_; refine .gf c70 ?_; refine .x (OpSem.pickF rfl rfl c70 rfl) ?_; refine .sq <| .condF rfl rfl ?_; refine .p <| .n <| .y <| .x .ad ?_; refine .m ?_; refine .n <| .again (j + 1) (by omega) ?_ (by omega); exact .p5 <| .p5 <| .p3 <| .slot rfl (Le.of_eq (by simp)) <| .memEq rfl (by rw [hst] <;> rfl) <| .all
      ·have hj : j = 2 ^ sets.length := by simp at c53; omega
       subst hj
       refine .u <| .u <| .u <| .b <| .g <| .freeze 49 rfl ?_; refine .r <| .m ?_; refine .a ?_; refine .n <| .n <| .y <| .x .ad ?_; refine .m ?_; refine .n <| .again (k + 1) (by omega) ?_ (by omega); exact .p3 <| .slot rfl (Le.of_eq rfl) <| .p2 <| .slot rfl (Le.of_eq (by simp)) <| .all
  ·have hk : k = cs.length := by simp at c29; omega
   subst hk
   have hPl := (hbO_p (sets := sets) (cs := cs) hcl hc (Nat.le_refl _)).l
   refine .u <| .u <| .u <| .b <| .z <| .mm ?_; refine .x (.n es103) ?_; refine .x .su ?_; refine .x (.i es103) ?_; refine .x (.lN vs62) ?_; refine .sb vs62 ?_; exact .sq <| .t <| .ret rfl (.cellN rfl rfl vs62 <| .nil) rfl (Le.of_eq (by unfold hbF; rw [← hPl]; rfl))
theorem hitting_Bound_does (t : Tsk) (s : List Int) : Does Tryz.prog false 8 [tskS t, .d (ints s)] (.t [I (hiR t s), flt (hiE t s)]) := by
 refine Does.of_body Tryz.func8 rfl rfl (by simp) Tryz.call8 (fun w0 O0 => ?_); refine .lg 0 1 fun len0_1 => ?_; refine .lg 0 2 fun len0_2 => ?_; refine .lg 0 3 fun len0_3 => ?_; refine .le 1 fun len1 => ?_; refine .g <| .r <| .bx 2 ?_; refine .a ?_; refine .al 5 zc28 ?_; refine .z <| .x (.L vs25) ?_; refine .m ?_; refine .x (OpSem.call0 (lmcut_Cuts_does t s) rfl rfl rfl rfl (Les.refl _)) ?_; refine .m ?_; refine .x .xt ?_; refine .x .xt ?_; refine .x .xt ?_; refine .al 8 zc28 ?_; refine .a ?_; refine .a ?_; refine .sb vs28 ?_; refine .sq <| .g <| .g <| .r <| .x (.L vs28) ?_; refine .x (.bd pl28 zc28) ?_; refine .x (OpSem.neS2 rfl rfl rfl io28) ?_; refine .m ?_; refine .split (n := 33) rfl (fun c33 => ?_) (fun c33 => ?_)
 ·have hL : sttF t s ≠ (0, 0) ∨ (cutW t s).2 = 1000000000 := .inl (fun h => by simp [h] at c33)
  refine .hf c33 ?_; refine .hf c33 ?_; refine .x (OpSem.pickT rfl rfl c33 rfl) ?_; refine .sq <| .condT rfl rfl ?_; refine .g <| PC.start [] ?_; refine .m ?_; refine .x (.L vs28) ?_; refine .x (OpSem.move (.inr rfl) rfl) ?_; refine .d0 mixed ?_; refine .sb vs28 ?_; exact .sq <| .t <| .t <| .ret rfl (.tmp rfl <| .cellN rfl rfl vs28 <| .nil) rfl (Le.t (.cons (Le.i (hi_1 hL).1) <| .cons (Le.flt (hi_1 hL).2) <| .nil))
 ·have h0 : sttF t s = (0, 0) := pair0 (by simpa using c33)
  refine .ht c33 ?_; refine .m ?_; refine .ht c33 ?_; refine .x (.b beql) ?_; refine .x (OpSem.pickF rfl rfl c33 rfl) ?_; refine .sq <| .cond rfl (fun c36 => ?_) (fun c36 => ?_)
  ·have hL : sttF t s ≠ (0, 0) ∨ (cutW t s).2 = 1000000000 := .inr (by simpa using c36)
   refine .g <| PC.start [] ?_; refine .m ?_; refine .x (.L vs28) ?_; refine .x (OpSem.move (.inr rfl) rfl) ?_; refine .d0 mixed ?_; refine .sb vs28 ?_; exact .sq <| .t <| .t <| .ret rfl (.tmp rfl <| .cellN rfl rfl vs28 <| .nil) rfl (Le.t (.cons (Le.i (hi_1 hL).1) <| .cons (Le.flt (hi_1 hL).2) <| .nil))
  ·have hT : (cutW t s).2 ≠ 1000000000 := by simpa using c36
   have hN : ¬ (sttF t s ≠ (0, 0) ∨ (cutW t s).2 = 1000000000) := fun h => h.elim (fun h => h h0) hT
   obtain ⟨hV, hS⟩ := sttF_ok h0
   obtain ⟨hC, hC2⟩ := hi_cuts h0 hT
   obtain ⟨hM1, hM2⟩ := hC.len hV
   have hol := hV.ops
   have hUl := hiU_len hM2
   have hUe : (dd (sortI (hiUT (cutW t s).1 (cutW t s).1.length))).length = (hiU (cutW t s).1).length := rfl
   have hUr : ∀ x, x ∈ (hiU (cutW t s).1) → 0 ≤ x ∧ x < t.ops.length := fun x hx => by obtain ⟨c, hc, hxc⟩ := hiU_mem.1 hx; exact (hC.e c hc).2.2.2.1 x hxc
   refine .p <| .z <| .a ?_; refine .a ?_; refine .sq <| .g <| .g <| .ownNil (n := 9) 9 1 3 rfl ?_; refine .ownNil (n := 10) 10 1 3 rfl ?_; refine .r <| .m ?_; refine .x (.n es32) ?_; refine .m ?_; refine .sq <| .k <| .loop (X := Nat) (fun k => k ≤ (cutW t s).1.length) (fun k => [(2, .r 2 0), (5, .r 5 0), (6, .d (vecsD ((cutW t s).1))), (9, .o 9), (10, .o 10), (39, .d (vecsD ((cutW t s).1))), (40, I (((cutW t s).1).length)), (41, I (k))]) (fun k => [(9, .own 1 3 ((hiUT (cutW t s).1 k).map fun n => [D.v (.int .i64 n)])), (10, .own 1 3 (([] : List Int).map fun n => [D.v (.int .i64 n)])), (2, .box [I (t.facts), .d (ints t.ini), .d (ints t.goal), .d (sopsD t.ops)]), (5, .box [I (0), I (0)])]) (fun k => (cutW t s).1.length - k) 0 (by omega) ?_ ?_
   ·exact .p5 <| .p2 <| .slot rfl (Le.of_eq (by simp)) <| .memEq rfl rfl <| .memEq rfl rfl <| .all
   ·rintro k hkl
    refine .g <| .r <| .x (.b blss) ?_; refine .sq <| .g <| .cond rfl (fun c42 => ?_) (fun c42 => ?_)
    ·have hk : k < (cutW t s).1.length := by simpa using c42
     have hcl := hM2 (nth (cutW t s).1 k) (nth_mem (l := (cutW t s).1) (n := k) (by omega) (by omega))
     have hul := hiUT_len hM2 (k := k) (by omega)
     refine .p <| .g <| .g <| .k <| .g <| .r <| .x (.i es32) ?_; refine .x (.lN vs55) ?_; refine .al 12 zc55 ?_; refine .sb vs55 ?_; refine .y <| .m ?_; refine .x (.f fo55_0) ?_; refine .x (.l vs22) ?_; refine .ap es22 el22 zc3 by3 ?_; refine .a ?_; refine .n <| .n <| .y <| .x .ad ?_; refine .m ?_; refine .n <| .again (k + 1) (by omega) ?_ (by omega); exact .p5 <| .p2 <| .slot rfl (Le.of_eq (by simp)) <| .memEq rfl (by rw [hiUT_s hk]; simp) <| .all
    ·have hk : k = (cutW t s).1.length := by simp at c42; omega
     subst hk
     have hul := hiUT_len hM2 (Nat.le_refl _)
     refine .u <| .u <| .u <| .b <| .z <| .m ?_; refine .ofSt (OpSt.callWS (s := .t []) (sortI_W (hiUT (cutW t s).1 (cutW t s).1.length) (by omega)) rfl rfl rfl (fun H => rfl) (plain_ints _) (fun O H w => .t [] [] rfl (fun i x s h => by simp at h))) rfl rfl rfl (by decide) ?_; refine .z <| .m ?_; refine .callW (s := .o 9) (compact_allI (sortI (hiUT (cutW t s).1 (cutW t s).1.length)) (by rw [sortI_len]; omega)) rfl rfl rfl (by decide) rfl rfl rfl (fun H => rfl) (plain_ints _) (fun O H w h1 => .o 9 h1) ?_; refine .a ?_; refine .sq <| .g <| .g <| .freeze 9 rfl ?_; refine .r <| .m ?_; refine .x (.n es32) ?_; refine .x (.b bgtr) ?_; refine .m ?_; refine .split (n := 57) rfl (fun c57 => ?_) (fun c57 => ?_)
     ·have hB : hiL (cutW t s).1 := .inl (by simp at c57; omega)
      refine .hf c57 ?_; refine .hf c57 ?_; refine .hf c57 ?_; refine .x (OpSem.pickT rfl rfl c57 rfl) ?_; refine .sq <| .condT rfl rfl ?_; refine .g <| .r <| .x (.bd pl28 zc28) ?_; refine .a ?_; refine .sb vs28 ?_; exact .sq <| .t <| .t <| .ret rfl (.tmp rfl <| .cellN rfl rfl vs28 <| .nil) rfl (Le.t (.cons (Le.i (hi_2 hN hB).1) <| .cons (Le.flt (hi_2 hN hB).2) <| .nil))
     ·refine .ht c57 ?_; refine .m ?_; refine .ht c57 ?_; refine .x (.n es22) ?_; refine .ht c57 ?_; refine .x (.b bgtr) ?_; refine .x (OpSem.pickF rfl rfl c57 rfl) ?_; refine .sq <| .cond rfl (fun c61 => ?_) (fun c61 => ?_)
      ·have hB : hiL (cutW t s).1 := .inr (by simp at c61; omega)
       refine .g <| .r <| .x (.bd pl28 zc28) ?_; refine .a ?_; refine .sb vs28 ?_; exact .sq <| .t <| .t <| .ret rfl (.tmp rfl <| .cellN rfl rfl vs28 <| .nil) rfl (Le.t (.cons (Le.i (hi_2 hN hB).1) <| .cons (Le.flt (hi_2 hN hB).2) <| .nil))
      ·have hB : ¬ hiL (cutW t s).1 := fun h => h.elim (fun h => by simp at c57; omega) (fun h => by simp at c61; omega)
       have hM16 : (cutW t s).1.length ≤ 16 := by simp at c57; omega
       have hU16 : (hiU (cutW t s).1).length ≤ 16 := by simp at c61; omega
       refine .p <| .g <| .g <| .g <| .r <| .m ?_; refine .x (.n es22) ?_; refine .m ?_; refine .sq <| .k <| .loop (X := Nat) (fun k => k ≤ (hiU (cutW t s).1).length) (fun k => [(2, .r 2 0), (5, .r 5 0), (6, .d (vecsD ((cutW t s).1))), (9, .d (ints (hiU (cutW t s).1))), (10, .o 10), (63, .d (ints (hiU (cutW t s).1))), (64, I ((hiU (cutW t s).1).length)), (65, I (k))]) (fun k => [(10, .own 1 3 ((hiC t (hiU (cutW t s).1) k).map fun n => [D.v (.int .i64 n)])), (2, .box [I (t.facts), .d (ints t.ini), .d (ints t.goal), .d (sopsD t.ops)]), (5, .box [I (0), I (0)])]) (fun k => (hiU (cutW t s).1).length - k) 0 (by omega) ?_ ?_
       ·exact .p5 <| .p2 <| .slot rfl (Le.of_eq (by simp)) <| .memEq rfl rfl <| .all
       ·rintro k hkl
        refine .g <| .r <| .x (.b blss) ?_; refine .sq <| .g <| .cond rfl (fun c66 => ?_) (fun c66 => ?_)
        ·have hk : k < (hiU (cutW t s).1).length := by simpa using c66
         have huk := hUr _ (nth_mem (l := (hiU (cutW t s).1)) (n := k) (by omega) (by omega))
         have hccl : (hiC t (hiU (cutW t s).1) k).length ≤ 16 := by simp [hiC]; omega
         refine .p <| .g <| .g <| .k <| .g <| .r <| .x (.i es22) ?_; refine .x (.l1 vs3) ?_; refine .a ?_; refine .y <| .m ?_; refine .x (.f fo25_3) ?_; refine .x (.l vs23) ?_; refine .m ?_; refine .x (.i es23) ?_; refine .x (OpSem.fieldp rfl rfl fo41_3) ?_; refine .x (.l1 vs3) ?_; refine .x (.bs es22 ze22) ?_; refine .ap es22 el22 zc3 by3 ?_; refine .a ?_; refine .n <| .n <| .y <| .x .ad ?_; refine .m ?_; refine .n <| .again (k + 1) (by omega) ?_ (by omega); exact .p5 <| .p2 <| .slot rfl (Le.of_eq (by simp)) <| .memEq rfl (by rw [hiC_s hk]; simp) <| .all
        ·have hk : k = (hiU (cutW t s).1).length := by simp at c66; omega
         subst hk
         refine .u <| .u <| .u <| .b <| .z <| .a ?_; refine .sq <| .g <| .g <| .ownNil (n := 15) 15 1 22 rfl ?_; refine .r <| .m ?_; refine .x (.n es32) ?_; refine .m ?_; refine .sq <| .k <| .loop (X := Nat) (fun k => k ≤ (cutW t s).1.length) (fun k => [(5, .r 5 0), (9, .d (ints (hiU (cutW t s).1))), (10, .o 10), (15, .o 15), (79, .d (vecsD ((cutW t s).1))), (80, I (((cutW t s).1).length)), (81, I (k))]) (fun k => [(15, .own 1 22 ((hiS (hiU (cutW t s).1) (cutW t s).1 k).map fun r => [ints r])), (10, .own 1 3 ((hiC t (hiU (cutW t s).1) (hiU (cutW t s).1).length).map fun n => [D.v (.int .i64 n)])), (5, .box [I (0), I (0)])]) (fun k => (cutW t s).1.length - k) 0 (by omega) ?_ ?_
         ·exact .p5 <| .sl <| .slot rfl (Le.of_eq (by simp)) <| .memEq rfl (by simp [hiS]) <| .memEq rfl rfl <| .mem rfl <| .nil
         ·rintro k hkl
          refine .g <| .r <| .x (.b blss) ?_; refine .sq <| .g <| .cond rfl (fun c82 => ?_) (fun c82 => ?_)
          ·have hk : k < (cutW t s).1.length := by simpa using c82
           have hcl := hM2 (nth (cutW t s).1 k) (nth_mem (l := (cutW t s).1) (n := k) (by omega) (by omega))
           have hsl : (hiS (hiU (cutW t s).1) (cutW t s).1 k).length ≤ 16 := by simp [hiS]; omega
           refine .p <| .g <| .g <| .k <| .g <| .r <| .x (.i es32) ?_; refine .x (.lN vs55) ?_; refine .al 17 zc55 ?_; refine .sb vs55 ?_; refine .z <| .a ?_; refine .sq <| .g <| .g <| .ownNil (n := 18) 18 1 3 rfl ?_; refine .r <| .x (.f fo55_0) ?_; refine .x (.l vs22) ?_; refine .x (.n es22) ?_; refine .m ?_; refine .sq <| .k <| .loop (X := Nat) (fun i => i ≤ (nth (cutW t s).1 k).1.length) (fun i => [(5, .r 5 0), (9, .d (ints (hiU (cutW t s).1))), (10, .o 10), (15, .o 15), (18, .o 18), (79, .d (vecsD ((cutW t s).1))), (80, I (((cutW t s).1).length)), (81, I (k)), (86, .d (ints ((nth ((cutW t s).1) k).1))), (87, I (((nth ((cutW t s).1) k).1).length)), (88, I (i))]) (fun i => [(18, .own 1 3 ((hiST (hiU (cutW t s).1) (nth (cutW t s).1 k).1 i).map fun n => [D.v (.int .i64 n)])), (15, .own 1 22 ((hiS (hiU (cutW t s).1) (cutW t s).1 k).map fun r => [ints r])), (10, .own 1 3 ((hiC t (hiU (cutW t s).1) (hiU (cutW t s).1).length).map fun n => [D.v (.int .i64 n)])), (5, .box [I (0), I (0)])]) (fun i => (nth (cutW t s).1 k).1.length - i) 0 (by omega) ?_ ?_
           ·exact .p5 <| .p5 <| .slot rfl (Le.of_eq (by simp)) <| .memEq rfl (by simp [hiST]) <| .memEq rfl rfl <| .memEq rfl rfl <| .mem rfl <| .nil
           ·rintro i hil
            refine .g <| .r <| .x (.b blss) ?_; refine .sq <| .g <| .cond rfl (fun c89 => ?_) (fun c89 => ?_)
            ·have hi : i < (nth (cutW t s).1 k).1.length := by simpa using c89
             have hstl : (hiST (hiU (cutW t s).1) (nth (cutW t s).1 k).1 i).length ≤ 40 := by simp [hiST]; omega
             refine .p <| .g <| .g <| .k <| .g <| .r <| .x (.i es22) ?_; refine .x (.l1 vs3) ?_; refine .a ?_; refine .z <| .mm ?_; refine .x (OpSem.call0 (slices_BinarySearch_int_int_does (hiU (cutW t s).1) (nth (nth (cutW t s).1 k).1 i) hiU_lt (by omega)) rfl rfl rfl rfl (Les.refl _)) ?_; refine .m ?_; refine .x .xt ?_; refine .x .xt ?_; refine .a ?_; refine .a ?_; refine .y <| .mm ?_; refine .x (.bs es22 ze22) ?_; refine .ap es22 el22 zc3 by3 ?_; refine .a ?_; refine .n <| .n <| .y <| .x .ad ?_; refine .m ?_; refine .n <| .again (i + 1) (by omega) ?_ (by omega); exact .p5 <| .p5 <| .slot rfl (Le.of_eq (by simp)) <| .memEq rfl (by rw [hiST_s hi]; simp) <| .all
            ·have hi : i = (nth (cutW t s).1 k).1.length := by simp at c89; omega
             subst hi
             refine .u <| .u <| .u <| .b <| .g <| .freeze 18 rfl ?_; refine .r <| .mm ?_; refine .x (.bs es58 ze58) ?_; refine .ap es58 el58 zc22 by22 ?_; refine .a ?_; refine .n <| .n <| .y <| .x .ad ?_; refine .m ?_; refine .n <| .again (k + 1) (by omega) ?_ (by omega); exact .p5 <| .sl <| .slot rfl (Le.of_eq (by simp)) <| .memEq rfl (by rw [hiS_s hk]; simp <;> rfl) <| .all
          ·have hk : k = (cutW t s).1.length := by simp at c82; omega
           subst hk
           refine .u <| .u <| .u <| .b <| .z <| .mm ?_; refine .x (OpSem.call (hitting_best_does (hiS (hiU (cutW t s).1) (cutW t s).1 (cutW t s).1.length) (hiC t (hiU (cutW t s).1) (hiU (cutW t s).1).length) (by simp [hiS]; omega) (by simp [hiC]; omega) (hiC_rng hV hUr)) (.inr rfl) rfl rfl rfl rfl (Les.refl _)) ?_; refine .x (OpSem.field1 rfl rfl f1_62_0 rfl) ?_; refine .x (.bd pl28 zc28) ?_; refine .a ?_; refine .sb vs28 ?_; exact .sq <| .t <| .ret rfl (.tmp rfl <| .cellN rfl rfl vs28 <| .nil) rfl (Le.t (.cons (Le.i (hi_0 hN hB).1) <| .cons (Le.flt (hi_0 hN hB).2) <| .nil))
end Go.Proofs.YthjmgcopfipabaaGreat
end

section
namespace Go.Eng
def lvB (lev : Int) (x : List Int) (p : Int) : Prop := nth x p < 0 ∨ lev ≤ nth x p
instance {lev : Int} {x : List Int} {p : Int} : Decidable (lvB lev x p) := by unfold lvB; exact inferInstance
def lvA (lev : Int) (add x : List Int) : Nat → List Int
 | 0 => x
 | j + 1 => if nth (lvA lev add x j) (nth add j) < 0 then (lvA lev add x j).set (nth add j).toNat lev else lvA lev add x j
def lvO (t : Tsk) (lev : Int) (x : List Int) (i : Nat) : List Int := if (nth t.ops i).pre.any (fun p => decide (lvB lev x p)) = true then x else lvA lev (nth t.ops i).add x (nth t.ops i).add.length
def lvP (t : Tsk) (lev : Int) (x : List Int) : Nat → List Int
 | 0 => x
 | i + 1 => lvO t lev (lvP t lev x i) i
def lvM (n k : Nat) : List Int := (List.range n).map fun (i : Nat) => if i < k then -1 else 0
def lvI (n : Nat) (s : List Int) : Nat → List Int
 | 0 => List.replicate n (-1)
 | k + 1 => (lvI n s k).set (nth s k).toNat 0
def lvL (t : Tsk) (s : List Int) : Nat → List Int
 | 0 => lvI t.facts.toNat s s.length
 | k + 1 => lvP t (k + 1 : Nat) (lvL t s k) t.ops.length
def lvlF (t : Tsk) (s : List Int) : List Int := lvL t s t.facts.toNat
theorem lvM_len {n k : Nat} : (lvM n k).length = n := by simp [lvM]
theorem lvM_0 {n : Nat} : lvM n 0 = List.replicate n 0 := by
 apply List.ext_getElem (by simp [lvM])
 intro i h1 h2; simp [lvM]
theorem lvM_s {n k : Nat} (hk : k < n) : (lvM n k).set k (-1) = lvM n (k + 1) := by
 apply List.ext_getElem (by simp [lvM])
 intro i h1 h2
 rw [List.getElem_set]
 simp only [lvM, List.getElem_map, List.getElem_range]
 by_cases h : k = i
 ·subst h; simp
 ·rw [if_neg h]
  by_cases h3 : i < k
  ·rw [if_pos h3, if_pos (by omega)]
  ·rw [if_neg h3, if_neg (by omega)]
theorem lvM_end {n : Nat} : lvM n n = List.replicate n (-1) := by
 apply List.ext_getElem (by simp [lvM])
 intro i h1 h2
 simp only [lvM, List.length_map, List.length_range] at h1
 simp [lvM, h1]
def cntN (v : List Int) : Nat := v.countP fun a => decide (a < 0)
theorem cntN_set {v : List Int} {p lev : Int} (p0 : 0 ≤ p) (p1 : p < v.length) (hl : 0 ≤ lev) (h : nth v p < 0) : cntN (v.set p.toNat lev) + 1 = cntN v := by
 obtain ⟨k, rfl⟩ := Int.eq_ofNat_of_zero_le p0
 have hk : k < v.length := by omega
 rw [nth_eq hk] at h
 rw [Int.toNat_natCast]
 unfold cntN
 induction v generalizing k with
 | nil => simp at hk
 | cons a v ih =>
  cases k with
  | zero => simp at h; have hl2 : ¬ lev < 0 := (by omega); simp [h, hl2]
  | succ k =>
   have := ih k (by simp at hk; omega) (by simp at hk; omega) (by simp at hk; omega) (by simpa using h)
   simp only [List.set_cons_succ, List.countP_cons]
   omega
structure LvS (n : Int) (lev : Int) (y x : List Int) : Prop where
 l : (x.length : Int) = n
 s : ∀ p : Int, 0 ≤ p → p < n → nth x p = nth y p ∨ (nth y p < 0 ∧ nth x p = lev)
 d : x = y ∨ cntN x < cntN y
section
variable {t : Tsk} {s : List Int} {lev n : Int} {x y z : List Int}
theorem LvS.refl (h : (y.length : Int) = n) : LvS n lev y y := ⟨h, fun _ _ _ => .inl rfl, .inl rfl⟩
theorem LvS.trans (hl : 0 ≤ lev) (h : LvS n lev x y) (k : LvS n lev y z) : LvS n lev x z := ⟨k.l, fun p p0 p1 => by
 rcases k.s p p0 p1 with e | ⟨e1, e2⟩ <;> rcases h.s p p0 p1 with q | ⟨q1, q2⟩
 ·exact .inl (e.trans q)
 ·exact .inr ⟨q1, e.trans q2⟩
 ·exact .inr ⟨by omega, e2⟩
 ·exact .inr ⟨q1, e2⟩, by
 rcases k.d with e | e <;> rcases h.d with q | q
 ·exact .inl (e.trans q)
 ·rw [e]; exact .inr q
 ·rw [← q]; exact .inr e
 ·exact .inr (by omega)⟩
theorem lvA_s (hl : 0 ≤ lev) {add : List Int} (ha : ∀ p, p ∈ add → 0 ≤ p ∧ p < n) (hy : (y.length : Int) = n) : ∀ {j : Nat}, j ≤ add.length → LvS n lev y (lvA lev add y j) ∧ ∀ i : Nat, i < j → 0 ≤ nth (lvA lev add y j) (nth add i)
 | 0, _ => ⟨.refl hy, fun i hi => by omega⟩
 | j + 1, hj => by
  obtain ⟨h1, h2⟩ := lvA_s hl ha hy (j := j) (by omega)
  have hp := ha _ (nth_mem (l := add) (n := (j : Int)) (by omega) (by omega))
  have hx := h1.l
  simp only [lvA]
  split
  ·rename_i hc
   have hst : LvS n lev (lvA lev add y j) ((lvA lev add y j).set (nth add j).toNat lev) := ⟨by simpa using hx, fun p p0 p1 => by
    rw [nth_sI hp.1 (by omega) p0 (by omega)]
    split
    ·rename_i e; rw [e]; exact .inr ⟨hc, rfl⟩
    ·exact .inl rfl, .inr (by have := cntN_set hp.1 (by omega) hl hc; omega)⟩
   refine ⟨h1.trans hl hst, fun i hi => ?_⟩
   have hpi := ha _ (nth_mem (l := add) (n := (i : Int)) (by omega) (by omega))
   rw [nth_sI hp.1 (by omega) hpi.1 (by omega)]
   by_cases hij : i = j
   ·subst hij; rw [if_pos rfl]; exact hl
   ·have := h2 i (by omega)
    split <;> omega
  ·rename_i hc
   refine ⟨h1, fun i hi => ?_⟩
   by_cases hij : i = j
   ·subst hij; omega
   ·exact h2 i (by omega)
theorem lvO_s (hV : TskV t) (hl : 0 ≤ lev) {i : Nat} (hi : i < t.ops.length) (hy : (y.length : Int) = t.facts) : LvS t.facts lev y (lvO t lev y i) := by
 unfold lvO
 split
 ·exact .refl hy
 ·exact (lvA_s hl (fun p hp => setP_mem (hV.op i hi).1.2.1 hp) hy (Nat.le_refl _)).1
theorem lvP_s (hV : TskV t) (hl : 0 ≤ lev) (hy : (y.length : Int) = t.facts) : ∀ {i : Nat}, i ≤ t.ops.length → LvS t.facts lev y (lvP t lev y i)
 | 0, _ => .refl hy
 | i + 1, hi => by
  have h1 := lvP_s hV hl hy (i := i) (by omega)
  exact h1.trans hl (lvO_s hV hl (by omega) h1.l)
structure LvK (t : Tsk) (s : List Int) (k : Int) (x : List Int) : Prop where
 l : (x.length : Int) = t.facts
 r : ∀ p : Int, 0 ≤ p → p < t.facts → -1 ≤ nth x p ∧ nth x p ≤ k
 z : ∀ p : Int, 0 ≤ p → p < t.facts → (nth x p = 0 ↔ p ∈ s)
 o : ∀ p : Int, 0 ≤ p → p < t.facts → 1 ≤ nth x p → ∃ i : Nat, i < t.ops.length ∧ p ∈ (nth t.ops i).add ∧ ∀ q, q ∈ (nth t.ops i).pre → 0 ≤ nth x q ∧ nth x q < nth x p
theorem LvK.lvP (hV : TskV t) {k : Int} (hk : 0 ≤ k) (h : LvK t s k y) : ∀ {i : Nat}, i ≤ t.ops.length → LvK t s (k + 1) (lvP t (k + 1) y i)
 | 0, _ => ⟨h.l, fun p p0 p1 => by have := h.r p p0 p1; show -1 ≤ nth y p ∧ nth y p ≤ k + 1; omega, h.z, h.o⟩
 | i + 1, hi => by
  have ih := LvK.lvP hV hk h (i := i) (by omega)
  show LvK t s (k + 1) (lvO t (k + 1) (Go.Eng.lvP t (k + 1) y i) i)
  obtain ⟨x, hx⟩ : ∃ x, Go.Eng.lvP t (k + 1) y i = x := ⟨_, rfl⟩
  rw [hx] at ih ⊢
  unfold lvO
  split
  ·exact ih
  ·rename_i hc
   have hc : ∀ q, q ∈ (nth t.ops i).pre → 0 ≤ nth x q ∧ nth x q < k + 1 := fun q hq => by
    have h1 : ¬ (nth x q < 0 ∨ k + 1 ≤ nth x q) := fun hh => hc (List.any_eq_true.2 ⟨q, hq, decide_eq_true hh⟩)
    omega
   have key : ∀ j : Nat, j ≤ (nth t.ops i).add.length → LvK t s (k + 1) (lvA (k + 1) (nth t.ops i).add x j) ∧ ∀ q, q ∈ (nth t.ops i).pre → nth (lvA (k + 1) (nth t.ops i).add x j) q = nth x q := fun j => by
    induction j with
    | zero => exact fun _ => ⟨ih, fun _ _ => rfl⟩
    | succ j ihj =>
     intro hj
     obtain ⟨g1, g2⟩ := ihj (by omega)
     have hpm : nth (nth t.ops i).add j ∈ (nth t.ops i).add := nth_mem (l := (nth t.ops i).add) (n := (j : Int)) (by omega) (by omega)
     have hp := setP_mem (hV.op i (by omega)).1.2.1 hpm
     have hl := g1.l
     simp only [lvA]
     split
     ·rename_i hneg
      have hat : ∀ q : Int, 0 ≤ q → q < t.facts → nth ((lvA (k + 1) (nth t.ops i).add x j).set (nth (nth t.ops i).add j).toNat (k + 1)) q = if q = nth (nth t.ops i).add j then k + 1 else nth (lvA (k + 1) (nth t.ops i).add x j) q := fun q q0 q1 => nth_sI hp.1 (by omega) q0 (by omega)
      have hkeep : ∀ q : Int, 0 ≤ q → q < t.facts → 0 ≤ nth (lvA (k + 1) (nth t.ops i).add x j) q → nth ((lvA (k + 1) (nth t.ops i).add x j).set (nth (nth t.ops i).add j).toNat (k + 1)) q = nth (lvA (k + 1) (nth t.ops i).add x j) q := fun q q0 q1 hq => by
       rw [hat q q0 q1, if_neg (fun e => by rw [e] at hq; omega)]
      have hpre : ∀ q, q ∈ (nth t.ops i).pre → nth ((lvA (k + 1) (nth t.ops i).add x j).set (nth (nth t.ops i).add j).toNat (k + 1)) q = nth x q := fun q hq => by
       have hqr := setP_mem (hV.op i (by omega)).1.1 hq
       have h1 := hc q hq
       rw [hkeep q hqr.1 hqr.2 (by rw [g2 q hq]; omega), g2 q hq]
      refine ⟨⟨by simpa using hl, fun q q0 q1 => ?_, fun q q0 q1 => ?_, fun q q0 q1 hq => ?_⟩, hpre⟩
      ·rw [hat q q0 q1]
       have := g1.r q q0 q1
       split <;> omega
      ·rw [hat q q0 q1]
       by_cases e : q = nth (nth t.ops i).add j
       ·rw [if_pos e]
        have := (g1.z q q0 q1)
        constructor
        ·intro h; omega
        ·intro h; have := this.2 h; rw [e] at this; omega
       ·rw [if_neg e]; exact g1.z q q0 q1
      ·by_cases e : q = nth (nth t.ops i).add j
       ·rw [hat q q0 q1, if_pos e] at hq ⊢
        exact ⟨i, by omega, by rw [e]; exact hpm, fun r hr => by rw [hpre r hr]; exact hc r hr⟩
       ·rw [hat q q0 q1, if_neg e] at hq ⊢
        obtain ⟨m, a1, a2, a3⟩ := g1.o q q0 q1 hq
        refine ⟨m, a1, a2, fun r hr => ?_⟩
        have hrr := setP_mem (hV.op m a1).1.1 hr
        rw [hkeep r hrr.1 hrr.2 (a3 r hr).1]; exact a3 r hr
     ·exact ⟨g1, g2⟩
   exact (key _ (Nat.le_refl _)).1
def LvC (t : Tsk) (x : List Int) : Prop := ∀ i : Nat, i < t.ops.length → (∀ q, q ∈ (nth t.ops i).pre → 0 ≤ nth x q) → ∀ p, p ∈ (nth t.ops i).add → 0 ≤ nth x p
theorem lvP_same (hV : TskV t) (hl : 0 ≤ lev) (hy : (y.length : Int) = t.facts) : ∀ {i : Nat}, i ≤ t.ops.length → lvP t lev y i = y → ∀ k : Nat, k < i → (∀ q, q ∈ (nth t.ops k).pre → 0 ≤ nth y q ∧ nth y q < lev) → ∀ p, p ∈ (nth t.ops k).add → 0 ≤ nth y p
 | 0, _, _, k, hk => by omega
 | i + 1, hi, h, k, hk => by
  have h1 := lvP_s hV hl hy (i := i) (by omega)
  have h2 := lvO_s hV hl (i := i) (by omega) h1.l
  have h : lvO t lev (lvP t lev y i) i = y := h
  have h3 : lvP t lev y i = y := by
   rcases h1.d with e | e
   ·exact e
   ·rcases h2.d with e2 | e2
    ·rw [← e2]; exact h
    ·rw [h] at e2; omega
  by_cases hki : k = i
  ·subst hki
   intro hq p hp
   rw [h3] at h
   unfold lvO at h
   rw [if_neg (fun hc => by
    obtain ⟨q, hq1, hq2⟩ := List.any_eq_true.1 hc
    have h4 := hq q hq1
    have h5 := of_decide_eq_true hq2
    unfold lvB at h5; omega)] at h
   obtain ⟨m, hm, rfl⟩ := List.getElem_of_mem hp
   have h6 := (lvA_s hl (fun p hp => setP_mem (hV.op k (by omega)).1.2.1 hp) hy (Nat.le_refl _)).2 m hm
   rw [h, nth_eq hm] at h6; exact h6
  ·exact lvP_same hV hl hy (i := i) (by omega) h3 k (by omega)
theorem lvI_k (hV : TskV t) (hs : ∀ p, p ∈ s → 0 ≤ p ∧ p < t.facts) : ∀ {k : Nat}, k ≤ s.length → ((lvI t.facts.toNat s k).length : Int) = t.facts ∧ ∀ p : Int, 0 ≤ p → p < t.facts → nth (lvI t.facts.toNat s k) p = if p ∈ s.take k then 0 else -1
 | 0, _ => by
  have hf := hV.facts
  refine ⟨by simp [lvI]; omega, fun p p0 p1 => ?_⟩
  obtain ⟨i, rfl⟩ := Int.eq_ofNat_of_zero_le p0
  simp only [lvI, List.take_zero, List.not_mem_nil, if_false]
  rw [nth_eq (by simp; omega), List.getElem_replicate]
 | k + 1, hk => by
  obtain ⟨h1, h2⟩ := lvI_k hV hs (k := k) (by omega)
  have hp := hs (nth s k) (nth_mem (by omega) (by omega))
  refine ⟨by simpa [lvI] using h1, fun p p0 p1 => ?_⟩
  show nth ((lvI t.facts.toNat s k).set (nth s k).toNat 0) p = _
  rw [nth_sI hp.1 (by omega) p0 (by omega), h2 p p0 p1, tk_s (by omega)]
  by_cases hpk : p = nth s k
  ·rw [if_pos hpk, if_pos (by rw [hpk]; simp)]
  ·rw [if_neg hpk]
   by_cases hm : p ∈ s.take k
   ·rw [if_pos hm, if_pos (by simp [hm])]
   ·rw [if_neg hm, if_neg (by simp [hm, hpk])]
theorem lvL_k (hV : TskV t) (hs : ∀ p, p ∈ s → 0 ≤ p ∧ p < t.facts) : ∀ {k : Nat}, LvK t s k (lvL t s k) ∧ (LvC t (lvL t s k) ∨ cntN (lvL t s k) + k ≤ t.facts.toNat)
 | 0 => by
  obtain ⟨h1, h2⟩ := lvI_k hV hs (Nat.le_refl _)
  rw [List.take_length] at h2
  refine ⟨⟨h1, fun p p0 p1 => ?_, fun p p0 p1 => ?_, fun p p0 p1 h => ?_⟩, .inr ?_⟩
  ·show -1 ≤ nth (lvI _ _ _) p ∧ nth (lvI _ _ _) p ≤ _
   rw [h2 p p0 p1]; split <;> simp
  ·show nth (lvI _ _ _) p = 0 ↔ _
   rw [h2 p p0 p1]; split <;> simp_all
  ·have h : 1 ≤ nth (lvI _ _ _) p := h
   rw [h2 p p0 p1] at h; split at h <;> omega
  ·have : cntN (lvL t s 0) ≤ (lvL t s 0).length := List.countP_le_length
   have e : (lvL t s 0).length = t.facts.toNat := by have : ((lvL t s 0).length : Int) = t.facts := h1; omega
   omega
 | k + 1 => by
  obtain ⟨h1, h2⟩ := lvL_k hV hs (k := k)
  have hst := lvP_s (lev := (k + 1 : Nat)) hV (by omega) h1.l (Nat.le_refl _)
  have hK := h1.lvP hV (by omega) (Nat.le_refl _)
  have e1 : ((k : Int) + 1) = ((k + 1 : Nat) : Int) := by omega
  rw [e1] at hK
  refine ⟨hK, ?_⟩
  show LvC t (lvP t (k + 1 : Nat) (lvL t s k) t.ops.length) ∨ cntN (lvP t (k + 1 : Nat) (lvL t s k) t.ops.length) + (k + 1) ≤ _
  rcases hst.d with e | e
  ·left
   have hC : LvC t (lvL t s k) := fun i hi hq p hp => lvP_same (lev := (k + 1 : Nat)) hV (by omega) h1.l (Nat.le_refl _) e i hi (fun q hq2 => by
    have hqr := setP_mem (hV.op i hi).1.1 hq2
    have := h1.r q hqr.1 hqr.2
    exact ⟨hq q hq2, by omega⟩) p hp
   rw [e]; exact hC
  ·rcases h2 with h2 | h2
   ·-- nothing can change where the levels are complete
    left
    intro i hi hq p hp
    have hpr := setP_mem (hV.op i hi).1.2.1 hp
    have hback : ∀ q : Int, 0 ≤ q → q < t.facts → 0 ≤ nth (lvP t (k + 1 : Nat) (lvL t s k) t.ops.length) q → 0 ≤ nth (lvL t s k) q := by
     have hdown : ∀ m : Nat, ∀ q : Int, 0 ≤ q → q < t.facts → 0 ≤ nth (lvP t (k + 1 : Nat) (lvL t s k) t.ops.length) q → nth (lvP t (k + 1 : Nat) (lvL t s k) t.ops.length) q < m → 0 ≤ nth (lvL t s k) q := fun m => by
      induction m with
      | zero => intro q q0 q1 h3 h4; omega
      | succ m ihm =>
       intro q q0 q1 h3 h4
       by_cases h0 : nth (lvP t (k + 1 : Nat) (lvL t s k) t.ops.length) q = 0
       ·have := (h1.z q q0 q1).2 ((hK.z q q0 q1).1 h0); omega
       ·obtain ⟨j, a1, a2, a3⟩ := hK.o q q0 q1 (by omega)
        exact h2 j a1 (fun r hr => by
         have hrr := setP_mem (hV.op j a1).1.1 hr
         have := a3 r hr
         exact ihm r hrr.1 hrr.2 this.1 (by omega)) q a2
     intro q q0 q1 h3
     have := hK.r q q0 q1
     exact hdown (k + 2) q q0 q1 h3 (by omega)
    have h3 := h2 i hi (fun q hq2 => by
     have hqr := setP_mem (hV.op i hi).1.1 hq2
     exact hback q hqr.1 hqr.2 (hq q hq2)) p hp
    rcases hst.s p hpr.1 hpr.2 with e3 | ⟨e3, e4⟩
    ·rw [e3]; exact h3
    ·omega
   ·right; omega
theorem lvl_spec (hV : TskV t) (hs : ∀ p, p ∈ s → 0 ≤ p ∧ p < t.facts) : LvK t s t.facts (lvlF t s) ∧ LvC t (lvlF t s) := by
 have hf := hV.facts
 obtain ⟨h1, h2⟩ := lvL_k hV hs (k := t.facts.toNat)
 have e : ((t.facts.toNat : Nat) : Int) = t.facts := by omega
 rw [e] at h1
 refine ⟨h1, ?_⟩
 rcases h2 with h2 | h2
 ·exact h2
 ·have h3 : cntN (lvlF t s) = 0 := by unfold lvlF; omega
  intro i hi _ p hp
  have hpr := setP_mem (hV.op i hi).1.2.1 hp
  refine Classical.byContradiction fun hn => ?_
  have := cntN_set (v := lvlF t s) hpr.1 (by have := h1.l; unfold lvlF; omega) (Int.le_refl 0) (by omega)
  omega
end
end Go.Eng
end

section
namespace Go.Eng
def smT (lv pre : List Int) : Nat → Int
 | 0 => 0
 | k + 1 => smT lv pre k + nth lv (nth pre k)
def tpT (n : Int) (lv pre : List Int) : Nat → Int
 | 0 => -1
 | k + 1 => if nth lv (nth pre k) < 0 then n else max (tpT n lv pre k) (nth lv (nth pre k))
def spB (lv : List Int) (sum top : Int) (y : List Int × List Int) (p : Int) : Prop := (top < nth lv p ∧ 0 < nth lv p) ∧ (nth y.1 p < 0 ∨ sum < nth y.2 p)
instance {lv : List Int} {sum top : Int} {y : List Int × List Int} {p : Int} : Decidable (spB lv sum top y p) := by unfold spB; exact inferInstance
def spA (lv add : List Int) (i : Nat) (sum top : Int) (x : List Int × List Int) : Nat → List Int × List Int
 | 0 => x
 | j + 1 => if spB lv sum top (spA lv add i sum top x j) (nth add j) then ((spA lv add i sum top x j).1.set (nth add j).toNat i, (spA lv add i sum top x j).2.set (nth add j).toNat sum) else spA lv add i sum top x j
def spO (t : Tsk) (lv : List Int) (x : List Int × List Int) (i : Nat) : List Int × List Int := spA lv (nth t.ops i).add i (smT lv (nth t.ops i).pre (nth t.ops i).pre.length) (tpT t.facts lv (nth t.ops i).pre (nth t.ops i).pre.length) x (nth t.ops i).add.length
def spP (t : Tsk) (lv : List Int) : Nat → List Int × List Int
 | 0 => (List.replicate t.facts.toNat (-1), List.replicate t.facts.toNat 0)
 | i + 1 => spO t lv (spP t lv i) i
def spF (t : Tsk) (s : List Int) : List Int := (spP t (lvlF t s) t.ops.length).1
section
variable {t : Tsk} {s lv : List Int}
theorem smT_rng (hr : ∀ p : Int, 0 ≤ p → p < t.facts → -1 ≤ nth lv p ∧ nth lv p ≤ t.facts) (hf : t.facts ≤ 24) {pre : List Int} (hp : ∀ k : Nat, k < pre.length → 0 ≤ nth pre k ∧ nth pre k < t.facts) : ∀ {k : Nat}, k ≤ pre.length → -(k : Int) ≤ smT lv pre k ∧ smT lv pre k ≤ 24 * k
 | 0, _ => by simp [smT]
 | k + 1, hk => by
  have ih := smT_rng hr hf hp (k := k) (by omega)
  have := hp k (by omega)
  have := hr _ this.1 this.2
  simp only [smT]; omega
theorem tpT_rng (hr : ∀ p : Int, 0 ≤ p → p < t.facts → -1 ≤ nth lv p ∧ nth lv p ≤ t.facts) (hf : 0 ≤ t.facts) {pre : List Int} (hp : ∀ k : Nat, k < pre.length → 0 ≤ nth pre k ∧ nth pre k < t.facts) : ∀ {k : Nat}, k ≤ pre.length → -1 ≤ tpT t.facts lv pre k ∧ tpT t.facts lv pre k ≤ t.facts ∧
  (tpT t.facts lv pre k < t.facts → ∀ i : Nat, i < k → 0 ≤ nth lv (nth pre i) ∧ nth lv (nth pre i) ≤ tpT t.facts lv pre k) ∧ ∀ m : Int, 0 ≤ m → (∀ i : Nat, i < k → 0 ≤ nth lv (nth pre i) ∧ nth lv (nth pre i) < m) → tpT t.facts lv pre k < m
 | 0, _ => by refine ⟨by simp [tpT], by simp [tpT]; omega, fun _ i hi => by omega, fun m hm _ => by simp [tpT]; omega⟩
 | k + 1, hk => by
  obtain ⟨h1, h2, h3, h4⟩ := tpT_rng hr hf hp (k := k) (by omega)
  have hpk := hp k (by omega)
  have hrk := hr _ hpk.1 hpk.2
  simp only [tpT]
  split
  ·rename_i hc
   exact ⟨by omega, by omega, fun h => by omega, fun m hm h => by have := h k (by omega); omega⟩
  ·rename_i hc
   refine ⟨by omega, by omega, fun h i hi => ?_, fun m hm h => ?_⟩
   ·by_cases hik : i = k
    ·subst hik; omega
    ·have := h3 (by omega) i (by omega); omega
   ·have := h k (by omega)
    have := h4 m hm fun i hi => h i (by omega)
    omega
def Sup (t : Tsk) (lv : List Int) (p : Int) (o : Nat) : Prop := p ∈ (nth t.ops o).add ∧ ∀ q, q ∈ (nth t.ops o).pre → 0 ≤ nth lv q ∧ nth lv q < nth lv p
structure SpK (t : Tsk) (lv : List Int) (i : Nat) (x : List Int × List Int) : Prop where
 l1 : (x.1.length : Int) = t.facts
 l2 : (x.2.length : Int) = t.facts
 r : ∀ p : Int, 0 ≤ p → p < t.facts → -1 ≤ nth x.1 p
 s : ∀ p : Int, 0 ≤ p → p < t.facts → 0 ≤ nth x.1 p → ∃ o : Nat, nth x.1 p = o ∧ o < t.ops.length ∧ Sup t lv p o
 c : ∀ p : Int, 0 ≤ p → p < t.facts → 0 < nth lv p → ∀ o : Nat, o < i → Sup t lv p o → 0 ≤ nth x.1 p
theorem spA_k (hV : TskV t) (hl : LvK t s t.facts lv) {i : Nat} (hi : i < t.ops.length) {x : List Int × List Int} (hx : SpK t lv i x) : ∀ {j : Nat}, j ≤ (nth t.ops i).add.length →
  SpK t lv i (spA lv (nth t.ops i).add i (smT lv (nth t.ops i).pre (nth t.ops i).pre.length) (tpT t.facts lv (nth t.ops i).pre (nth t.ops i).pre.length) x j) ∧
   ∀ m : Nat, m < j → 0 < nth lv (nth (nth t.ops i).add m) → Sup t lv (nth (nth t.ops i).add m) i → 0 ≤ nth (spA lv (nth t.ops i).add i (smT lv (nth t.ops i).pre (nth t.ops i).pre.length) (tpT t.facts lv (nth t.ops i).pre (nth t.ops i).pre.length) x j).1 (nth (nth t.ops i).add m)
 | 0, _ => ⟨hx, fun m hm => by omega⟩
 | j + 1, hj => by
  obtain ⟨h1, h2⟩ := spA_k hV hl hi hx (j := j) (by omega)
  have hf := hV.facts
  have hpm : nth (nth t.ops i).add j ∈ (nth t.ops i).add := nth_mem (l := (nth t.ops i).add) (n := (j : Int)) (by omega) (by omega)
  have hp := setP_mem (hV.op i hi).1.2.1 hpm
  obtain ⟨t1, t2, t3, t4⟩ := tpT_rng (t := t) (lv := lv) (fun p p0 p1 => hl.r p p0 p1) hf.1 (set_rng (hV.op i hi).1.1) (Nat.le_refl _)
  simp only [spA]
  obtain ⟨y, hy⟩ : ∃ y, spA lv (nth t.ops i).add i (smT lv (nth t.ops i).pre (nth t.ops i).pre.length) (tpT t.facts lv (nth t.ops i).pre (nth t.ops i).pre.length) x j = y := ⟨_, rfl⟩
  rw [hy] at h1 h2 ⊢
  have a1 := h1.l1
  have a2 := h1.l2
  split
  ·rename_i hc
   obtain ⟨⟨c1, c2⟩, _⟩ := hc
   have hat : ∀ q : Int, 0 ≤ q → q < t.facts → nth (y.1.set (nth (nth t.ops i).add j).toNat (i : Int)) q = if q = nth (nth t.ops i).add j then (i : Int) else nth y.1 q := fun q q0 q1 => nth_sI hp.1 (by omega) q0 (by omega)
   have hlp := hl.r _ hp.1 hp.2
   refine ⟨⟨by simpa using a1, by simpa using a2, fun q q0 q1 => ?_, fun q q0 q1 hq => ?_, fun q q0 q1 hq o ho hs => ?_⟩, fun m hm hm2 hs => ?_⟩
   ·show -1 ≤ nth (y.1.set _ _) q
    rw [hat q q0 q1]; have := h1.r q q0 q1; split <;> omega
   ·show ∃ o : Nat, nth (y.1.set _ _) q = o ∧ _
    have hq : 0 ≤ nth (y.1.set _ _) q := hq
    rw [hat q q0 q1] at hq ⊢
    by_cases e : q = nth (nth t.ops i).add j
    ·rw [if_pos e]
     refine ⟨i, rfl, hi, by rw [e]; exact hpm, fun r hr => ?_⟩
     obtain ⟨k, hk, rfl⟩ := List.getElem_of_mem hr
     have := t3 (by omega) k hk
     rw [nth_eq hk] at this
     rw [e]; omega
    ·rw [if_neg e] at hq ⊢
     exact h1.s q q0 q1 hq
   ·show 0 ≤ nth (y.1.set _ _) q
    have := h1.c q q0 q1 hq o ho hs
    rw [hat q q0 q1]; split <;> omega
   ·have hm3 := setP_mem (hV.op i hi).1.2.1 (nth_mem (l := (nth t.ops i).add) (n := (m : Int)) (by omega) (by omega))
    show 0 ≤ nth (y.1.set _ _) _
    rw [hat _ hm3.1 hm3.2]
    split
    ·omega
    ·by_cases hmj : m = j
     ·subst hmj; rename_i hne; exact absurd rfl hne
     ·exact h2 m (by omega) hm2 hs
  ·rename_i hc
   refine ⟨h1, fun m hm hm2 hs => ?_⟩
   by_cases hmj : m = j
   ·subst hmj
    refine Classical.byContradiction fun hn => hc ⟨⟨t4 _ (by omega) fun k hk => ?_, hm2⟩, .inl (by omega)⟩
    exact hs.2 _ (nth_mem (l := (nth t.ops i).pre) (n := (k : Int)) (by omega) (by omega))
   ·exact h2 m (by omega) hm2 hs
theorem spP_k (hV : TskV t) (hl : LvK t s t.facts lv) : ∀ {i : Nat}, i ≤ t.ops.length → SpK t lv i (spP t lv i)
 | 0, _ => by
  have hf := hV.facts
  have ha : ∀ p : Int, 0 ≤ p → p < t.facts → nth (List.replicate t.facts.toNat (-1 : Int)) p = -1 := fun p p0 p1 => by
   obtain ⟨i, rfl⟩ := Int.eq_ofNat_of_zero_le p0
   rw [nth_eq (by simp; omega), List.getElem_replicate]
  refine ⟨by simp [spP]; omega, by simp [spP]; omega, fun p p0 p1 => ?_, fun p p0 p1 h => ?_, fun p p0 p1 _ o ho => by omega⟩
  ·show -1 ≤ nth (List.replicate _ _) p
   rw [ha p p0 p1]; omega
  ·have h : 0 ≤ nth (List.replicate t.facts.toNat (-1 : Int)) p := h
   rw [ha p p0 p1] at h; omega
 | i + 1, hi => by
  have ih := spP_k hV hl (i := i) (by omega)
  obtain ⟨h1, h2⟩ := spA_k hV hl (i := i) (by omega) ih (Nat.le_refl _)
  refine ⟨h1.l1, h1.l2, h1.r, h1.s, fun p p0 p1 hp o ho hs => ?_⟩
  by_cases hoi : o = i
  ·subst hoi
   obtain ⟨m, hm, rfl⟩ := List.getElem_of_mem hs.1
   have := h2 m hm (by rw [nth_eq hm]; exact hp) (by rw [nth_eq hm]; exact hs)
   rw [nth_eq hm] at this; exact this
  ·exact h1.c p p0 p1 hp o (by omega) hs
theorem sp_spec (hV : TskV t) (hs : ∀ p, p ∈ s → 0 ≤ p ∧ p < t.facts) : SpK t (lvlF t s) t.ops.length (spP t (lvlF t s) t.ops.length) ∧ ∀ p : Int, 0 ≤ p → p < t.facts → 0 < nth (lvlF t s) p → 0 ≤ nth (spF t s) p := by
 obtain ⟨hl, _⟩ := lvl_spec hV hs
 have h := spP_k hV hl (Nat.le_refl _)
 refine ⟨h, fun p p0 p1 hp => ?_⟩
 obtain ⟨o, a1, a2, a3⟩ := hl.o p p0 p1 (by omega)
 exact h.c p p0 p1 hp o a1 ⟨a2, a3⟩
end
abbrev AcSt := List Bool × List Int
def acK (g : Int → AcSt → AcSt) (pre : List Int) (x : AcSt) : Nat → AcSt
 | 0 => x
 | k + 1 => g (nth pre k) (acK g pre x k)
def acF (t : Tsk) (sup : List Int) : Nat → Int → AcSt → AcSt
 | 0, _, x => x
 | f + 1, p, x => if nth sup p < 0 ∨ nth x.1 (nth sup p) = true then x else
   ((acK (acF t sup f) (nth t.ops (nth sup p)).pre (x.1.set (nth sup p).toNat true, x.2) (nth t.ops (nth sup p)).pre.length).1,
    (acK (acF t sup f) (nth t.ops (nth sup p)).pre (x.1.set (nth sup p).toNat true, x.2) (nth t.ops (nth sup p)).pre.length).2 ++ [nth sup p])
def plN (l : List Int) : List Nat := l.map Int.toNat
abbrev Mk (t : Tsk) (s : List Int) (l : List Int) (p : Int) : Prop := rxF t (· ∈ s) (plN l) p
def DnO (t : Tsk) (s : List Int) (l : List Int) (o : Nat) : Prop := ∀ p, p ∈ (nth t.ops o).add → Mk t s l p
structure AcS (t : Tsk) (s : List Int) (x y : AcSt) : Prop where
 l : x.1.length = t.ops.length → y.1.length = t.ops.length
 n : cntF y.1 ≤ cntF x.1
 u : ∀ o : Nat, nth x.1 o = true → nth y.1 o = true
 m : ∀ p, Mk t s x.2 p → Mk t s y.2 p
 d : ∀ o : Nat, nth y.1 o = true → nth x.1 o = true ∨ DnO t s y.2 o
 r : ∀ o, o ∈ y.2 → o ∈ x.2 ∨ (0 ≤ o ∧ o < t.ops.length)
 c : y.2.length + cntF y.1 ≤ x.2.length + cntF x.1
section
variable {t : Tsk} {s : List Int} {x y z : AcSt}
theorem AcS.refl : AcS t s x x := ⟨id, Nat.le_refl _, fun _ h => h, fun _ h => h, fun _ h => .inl h, fun _ h => .inl h, Nat.le_refl _⟩
theorem AcS.trans (h : AcS t s x y) (k : AcS t s y z) : AcS t s x z := ⟨fun e => k.l (h.l e), Nat.le_trans k.n h.n, fun o ho => k.u o (h.u o ho), fun p hp => k.m p (h.m p hp), fun o ho => (k.d o ho).elim (fun h2 => (h.d o h2).imp id fun h3 p hp => k.m p (h3 p hp)) .inr, fun o ho => (k.r o ho).elim (h.r o) .inr, Nat.le_trans k.c h.c⟩
def AcI (t : Tsk) (s : List Int) (x : AcSt) (m : Int) : Prop := ∀ o : Nat, o < t.ops.length → nth x.1 o = true → DnO t s x.2 o ∨ ∃ q, q ∈ (nth t.ops o).pre ∧ m ≤ nth (lvlF t s) q
theorem AcI.mono {m m' : Int} (h : AcI t s x m) (hk : AcS t s x y) (hm : m' ≤ m) : AcI t s y m' := fun o ho hy => (hk.d o hy).elim (fun h1 => (h o ho h1).imp (fun h2 p hp => hk.m p (h2 p hp)) fun ⟨q, hq, hq2⟩ => ⟨q, hq, by omega⟩) .inl
theorem nth_outB {l : List Bool} {n : Nat} (h : l.length ≤ n) : nth l (n : Int) = false := by
 unfold nth; rw [List.getD_eq_getElem?_getD, Int.toNat_natCast, List.getElem?_eq_none h]; rfl
theorem plN_snoc {l : List Int} {o : Int} : plN (l ++ [o]) = plN l ++ [o.toNat] := by simp [plN]
theorem ac_spec (hV : TskV t) (hs : ∀ p, p ∈ s → 0 ≤ p ∧ p < t.facts) : ∀ (f : Nat) {p : Int} {x : AcSt}, 0 ≤ p → p < t.facts → 0 ≤ nth (lvlF t s) p → x.1.length = t.ops.length → cntF x.1 < f → AcI t s x (nth (lvlF t s) p) → AcS t s x (acF t (spF t s) f p x) ∧ Mk t s (acF t (spF t s) f p x).2 p
 | 0, _, _, _, _, _, _, hc, _ => by omega
 | f + 1, p, x, p0, p1, hlp, hxl, hc, hI => by
  obtain ⟨hl, _⟩ := lvl_spec hV hs
  obtain ⟨hK, hS⟩ := sp_spec hV hs
  simp only [acF]
  split
  ·rename_i h
   refine ⟨.refl, ?_⟩
   by_cases h0 : nth (lvlF t s) p = 0
   ·exact rxF_ext p ((hl.z p p0 p1).1 h0)
   ·have h1 := hS p p0 p1 (by omega)
    obtain ⟨o, e1, e2, e3, e4⟩ := hK.s p p0 p1 h1
    rcases h with h | h
    ·omega
    ·have e1 : nth (spF t s) p = o := e1
     rw [e1] at h
     rcases hI o e2 h with h3 | ⟨q, hq, hq2⟩
     ·exact h3 p e3
     ·have := e4 q hq; omega
  ·rename_i h
   have h1 : 0 ≤ nth (spF t s) p := Int.not_lt.1 fun q => h (.inl q)
   obtain ⟨o, e1, e2, e3, e4⟩ := hK.s p p0 p1 h1
   have e1 : nth (spF t s) p = o := e1
   rw [e1] at h ⊢
   have hxo : nth x.1 (o : Int) = false := by
    cases hb : nth x.1 (o : Int) with
    | false => rfl
    | true => exact absurd (.inr hb) h
   have hcn := cntF_set (v := x.1) (p := (o : Int)) (by omega) (by omega) hxo
   have hat : ∀ m : Nat, m < t.ops.length → nth (x.1.set (o : Int).toNat true) (m : Int) = if m = o then true else nth x.1 m := fun m hm => by
    rw [nth_sB (by omega) (by omega) (by omega) (by omega)]
    by_cases hmo : m = o
    ·rw [if_pos (by omega), if_pos hmo]
    ·rw [if_neg (by omega), if_neg hmo]
   have hpr := set_rng (hV.op o e2).1.1
   have key : ∀ k : Nat, k ≤ (nth t.ops o).pre.length → AcS t s (x.1.set (o : Int).toNat true, x.2) (acK (acF t (spF t s) f) (nth t.ops o).pre (x.1.set (o : Int).toNat true, x.2) k) ∧ ∀ j : Nat, j < k → Mk t s (acK (acF t (spF t s) f) (nth t.ops o).pre (x.1.set (o : Int).toNat true, x.2) k).2 (nth (nth t.ops o).pre j) := fun k => by
    induction k with
    | zero => exact fun _ => ⟨.refl, fun j hj => by omega⟩
    | succ k ih =>
     intro hk
     obtain ⟨g1, g2⟩ := ih (by omega)
     have hq := hpr k (by omega)
     have hqm : nth (nth t.ops o).pre k ∈ (nth t.ops o).pre := nth_mem (l := (nth t.ops o).pre) (n := (k : Int)) (by omega) (by omega)
     have hql := e4 _ hqm
     have hI2 : AcI t s (acK (acF t (spF t s) f) (nth t.ops o).pre (x.1.set (o : Int).toNat true, x.2) k) (nth (lvlF t s) (nth (nth t.ops o).pre k)) := by
      have hb : AcI t s (x.1.set (o : Int).toNat true, x.2) (nth (lvlF t s) (nth (nth t.ops o).pre k)) := fun m hm hm2 => by
       have hm2 : nth (x.1.set (o : Int).toNat true) (m : Int) = true := hm2
       rw [hat m hm] at hm2
       by_cases hmo : m = o
       ·subst hmo; exact .inr ⟨_, hqm, Int.le_refl _⟩
       ·rw [if_neg hmo] at hm2
        exact (hI m hm hm2).imp id fun ⟨q, a1, a2⟩ => ⟨q, a1, by omega⟩
      exact hb.mono g1 (Int.le_refl _)
     obtain ⟨r1, r2⟩ := ac_spec hV hs f (x := acK (acF t (spF t s) f) (nth t.ops o).pre (x.1.set (o : Int).toNat true, x.2) k) hq.1 hq.2 hql.1 (g1.l (by simpa using hxl)) (by have := g1.n; simp only at this; omega) hI2
     refine ⟨g1.trans r1, fun j hj => ?_⟩
     by_cases hjk : j = k
     ·subst hjk; exact r2
     ·exact r1.m _ (g2 j (by omega))
   obtain ⟨g1, g2⟩ := key _ (Nat.le_refl _)
   obtain ⟨y, hy⟩ : ∃ y, acK (acF t (spF t s) f) (nth t.ops o).pre (x.1.set (o : Int).toNat true, x.2) (nth t.ops o).pre.length = y := ⟨_, rfl⟩
   rw [hy] at g1 g2 ⊢
   have hmk : ∀ q, Mk t s y.2 q → Mk t s (y.2 ++ [(o : Int)]) q := fun q hq => by
    unfold Mk; rw [plN_snoc, rxF_snoc]; exact .inl hq
   have hdn : DnO t s (y.2 ++ [(o : Int)]) o := fun q hq => by
    unfold Mk
    rw [plN_snoc, rxF_snoc, Int.toNat_natCast]
    refine .inr ⟨fun r hr => ?_, hq⟩
    obtain ⟨j, hj, rfl⟩ := List.getElem_of_mem hr
    have := g2 j hj
    rw [nth_eq hj] at this; exact this
   refine ⟨⟨fun e => g1.l (by simpa using e), by have := g1.n; simp only at this ⊢; omega, fun m hm => g1.u m ?_, fun q hq => hmk q (g1.m q hq), fun m hm => ?_, fun q hq => ?_, ?_⟩, hdn p e3⟩
   ·show nth (x.1.set (o : Int).toNat true) (m : Int) = true
    by_cases hlt : m < t.ops.length
    ·rw [hat m hlt]; split
     ·rfl
     ·exact hm
    ·have : nth x.1 (m : Int) = false := nth_outB (by omega)
     rw [this] at hm; cases hm
   ·rcases g1.d m hm with h3 | h3
    ·have h3 : nth (x.1.set (o : Int).toNat true) (m : Int) = true := h3
     by_cases hlt : m < t.ops.length
     ·rw [hat m hlt] at h3
      by_cases hmo : m = o
      ·subst hmo; exact .inr hdn
      ·rw [if_neg hmo] at h3; exact .inl h3
     ·have : nth (x.1.set (o : Int).toNat true) (m : Int) = false := nth_outB (by simp; omega)
      rw [this] at h3; cases h3
    ·exact .inr fun q hq => hmk q (h3 q hq)
   ·rcases List.mem_append.1 hq with hq | hq
    ·exact g1.r q hq
    ·rw [List.mem_singleton] at hq; rw [hq]; exact .inr ⟨by omega, by omega⟩
   ·have := g1.c; simp only [List.length_append, List.length_singleton] at this ⊢; omega
def acG (t : Tsk) (s : List Int) (k : Nat) : AcSt := acK (acF t (spF t s) (t.ops.length + 1)) t.goal (List.replicate t.ops.length false, []) k
def plL (t : Tsk) (s : List Int) : List Int := (acG t s t.goal.length).2
def plB (t : Tsk) (s : List Int) : Prop := ∀ p, p ∈ t.goal → 0 ≤ nth (lvlF t s) p
theorem cntF_rep {n : Nat} : cntF (List.replicate n false) = n := by
 unfold cntF
 induction n with
 | zero => rfl
 | succ n ih => rw [List.replicate_succ, List.countP_cons, ih]; rfl
theorem acG_spec (hV : TskV t) (hs : ∀ p, p ∈ s → 0 ≤ p ∧ p < t.facts) (hB : plB t s) : ∀ {k : Nat}, k ≤ t.goal.length → AcS t s (List.replicate t.ops.length false, []) (acG t s k) ∧ ∀ j : Nat, j < k → Mk t s (acG t s k).2 (nth t.goal j)
 | 0, _ => ⟨.refl, fun j hj => by omega⟩
 | k + 1, hk => by
  obtain ⟨h1, h2⟩ := acG_spec hV hs hB (k := k) (by omega)
  have hm : nth t.goal k ∈ t.goal := nth_mem (by omega) (by omega)
  have hr := setP_mem hV.goal hm
  have h0 : ∀ m : Int, AcI t s (List.replicate t.ops.length false, []) m := fun m o ho ho2 => by
   have ho2 : nth (List.replicate t.ops.length false) (o : Int) = true := ho2
   rw [nth_eq (by simpa using ho), List.getElem_replicate] at ho2; cases ho2
  obtain ⟨r1, r2⟩ := ac_spec hV hs (t.ops.length + 1) (x := acG t s k) hr.1 hr.2 (hB _ hm) (h1.l (by simp)) (by have h3 := h1.n; simp only [cntF_rep] at h3; omega) ((h0 _).mono h1 (Int.le_refl _))
  refine ⟨h1.trans r1, fun j hj => ?_⟩
  by_cases hjk : j = k
  ·subst hjk; exact r2
  ·exact r1.m _ (h2 j (by omega))
theorem pl_spec (hV : TskV t) (hs : ∀ p, p ∈ s → 0 ≤ p ∧ p < t.facts) (hB : plB t s) : Rx t s t.goal (plN (plL t s)) ∧ (∀ o, o ∈ plL t s → 0 ≤ o ∧ o < t.ops.length) ∧ (plL t s).length ≤ t.ops.length := by
 obtain ⟨h1, h2⟩ := acG_spec hV hs hB (Nat.le_refl _)
 have hr : ∀ o, o ∈ plL t s → 0 ≤ o ∧ o < t.ops.length := fun o ho => (h1.r o ho).resolve_left (by simp)
 refine ⟨⟨fun i hi => ?_, fun p hp => ?_⟩, hr, ?_⟩
 ·obtain ⟨o, ho, rfl⟩ := List.mem_map.1 hi
  have := hr o ho; omega
 ·obtain ⟨j, hj, rfl⟩ := List.getElem_of_mem hp
  have := h2 j hj
  rw [nth_eq hj] at this; exact this
 ·have := h1.c
  simp only [cntF_rep, List.length_nil] at this
  unfold plL; omega
theorem pl_ok (hV : TskV t) (hs : ∀ p, p ∈ s → 0 ≤ p ∧ p < t.facts) {l : List Nat} (h : Rx t s t.goal l) : plB t s := by
 obtain ⟨hl, hc⟩ := lvl_spec hV hs
 have key := rxF_inv (t := t) (l := l) (X := (· ∈ s)) (I := fun p => 0 ≤ nth (lvlF t s) p) (fun p hp => by have h1 := hs p hp; rw [(hl.z p h1.1 h1.2).2 hp]; omega) (fun i hi hq p hp => hc i (h.i i hi) hq p hp)
 exact fun p hp => key p (h.g p hp)
end
end Go.Eng
end

section
namespace Go.Proofs.YthjmgcopfipabaaGreat
open Go.Eng
set_option maxRecDepth 10000
set_option maxHeartbeats 1000000
theorem relaxplan_levels_1_does (x : List Int) (lev p : Int) (h0 : 0 ≤ p) (h1 : p < x.length) : Does Tryz.prog false 60 [I (p), .p [ints x], .p [.v (.int .i64 lev)]] (Bo (decide (lvB lev x p))) := by
 refine Does.of_body Tryz.func60 rfl rfl (by simp) Tryz.call60 (fun w0 O0 => ?_); refine .g <| .r <| .a ?_; refine .sq <| .g <| PC.start [] ?_; refine .x (.l1 vs22) ?_; refine .m ?_; refine .x (.i es22) ?_; refine .x (.l1 vs3) ?_; refine .x (.b blss) ?_; refine .m ?_; refine .split (n := 10) rfl (fun c10 => ?_) (fun c10 => ?_)
 ·refine .hf c10 ?_; refine .hf c10 ?_; refine .hf c10 ?_; refine .hf c10 ?_; refine .hf c10 ?_; refine .d0 mixed ?_; refine .hf c10 ?_; refine .x (OpSem.pickT rfl rfl c10 rfl) ?_; refine .a ?_; exact .sq <| .t <| .ret rfl (.tmp rfl <| .nil) rfl (Le.bo (decide_eq_true (.inl (by simpa using c10))).symm)
 ·refine .ht (.l1 vs22) c10 ?_; refine .ht (OpSem.move (.inl rfl) rfl) c10 ?_; refine .ht (.i es22) c10 ?_; refine .ht (.l1 vs3) c10 ?_; refine .ht (.l1 vs3) c10 ?_; refine .d0 mixed ?_; refine .ht c10 ?_; refine .x (.b bgeq) ?_; refine .x (OpSem.pickF rfl rfl c10 rfl) ?_; refine .a ?_; exact .sq <| .t <| .ret rfl (.tmp rfl <| .nil) rfl (Le.bo (decide_eq_decide.2 ⟨.inr, fun h => h.resolve_left (by simpa using c10)⟩))
theorem relaxplan_levels_does (t : Tsk) (s : List Int) (hV : TskV t) (hS : SetP t.facts s) : DoesO Tryz.prog 33 [tskS t, .d (ints s)] 1 3 (((lvlF t s).map fun n => [D.v (.int .i64 n)])) := by
 have hf0 := hV.facts
 have hol := hV.ops
 have hs : ∀ p, p ∈ s → 0 ≤ p ∧ p < t.facts := fun p hp => setP_mem hS hp
 have hsl := setP_len hS hf0.2
 refine DoesO.of_body Tryz.func33 rfl rfl (by simp) Tryz.call33 (fun w0 O0 => ?_); refine .lg 0 1 fun len0_1 => ?_; refine .lg 0 2 fun len0_2 => ?_; refine .lg 0 3 fun len0_3 => ?_; refine .le 1 fun len1 => ?_; refine .g <| .r <| .bx 2 ?_; refine .a ?_; refine .z <| .x (.f fo25_0) ?_; refine .x (.l vs3) ?_; refine .mk 16 es22 ze22 bye22 ?_; refine .al 5 zc22 ?_; refine .sb vs22 ?_; refine .sq <| .g <| .g <| .r <| .x (.l vs22) ?_; refine .x (OpSem.leno rfl rfl rfl es22) ?_; refine .m ?_; refine .sq <| .k <| .loop (X := Nat) (fun k => k ≤ t.facts.toNat) (fun k => [(1, .d (ints s)), (2, .r 2 0), (5, .r 5 0), (18, I (t.facts)), (19, I (k))]) (fun k => [(5, .box [.o 16]), (16, .own 1 3 ((lvM t.facts.toNat k).map fun n => [D.v (.int .i64 n)])), (2, .box [I (t.facts), .d (ints t.ini), .d (ints t.goal), .d (sopsD t.ops)])]) (fun k => t.facts.toNat - k) 0 (by omega) ?_ ?_
 ·exact .p3 <| .slot rfl (Le.i (by simp; omega)) <| .slot rfl (Le.of_eq (by simp)) <| .mem rfl <| .memEq rfl (by rw [el22, lvM_0]; first | (simp; done) | (simp; rfl)) <| .mem rfl <| .nil
 ·rintro k hkl
  refine .g <| .r <| .x (.b blss) ?_; refine .sq <| .g <| .cond rfl (fun c20 => ?_) (fun c20 => ?_)
  ·have hk : k < t.facts.toNat := by simp at c20; omega
   refine .p <| .g <| .g <| .k <| .g <| .r <| .m ?_; refine .a ?_; refine .y <| .x (.l vs22) ?_; refine .m ?_; refine .x (OpSem.idxo rfl rfl rfl rfl es22 (by omega) (by simp [lvM_len]; omega)) ?_; refine .storeq rfl rfl rfl rfl rfl rfl rfl vs3 (rows_get (by omega) (by rw [lvM_len]; omega)) (by simp) ?_; refine .n <| .n <| .y <| .x .ad ?_; refine .m ?_; refine .n <| .again (k + 1) (by omega) ?_ (by omega); exact .p3 <| .sl <| .slot rfl (Le.of_eq (by simp)) <| .mem rfl <| .memEq rfl (by rw [← lvM_s hk]; exact congrArg (Mo.own 1 3) (rows_set (f := fun n => [D.v (.int .i64 n)]))) <| .mem rfl <| .nil
  ·have hk : k = t.facts.toNat := by simp at c20; omega
   subst hk
   refine .u <| .u <| .u <| .b <| .g <| .g <| .g <| .r <| .m ?_; refine .x (.n es22) ?_; refine .m ?_; refine .sq <| .k <| .loop (X := Nat) (fun k => k ≤ s.length) (fun k => [(2, .r 2 0), (5, .r 5 0), (26, .d (ints s)), (27, I (s.length)), (28, I (k))]) (fun k => [(5, .box [.o 16]), (16, .own 1 3 ((lvI t.facts.toNat s k).map fun n => [D.v (.int .i64 n)])), (2, .box [I (t.facts), .d (ints t.ini), .d (ints t.goal), .d (sopsD t.ops)])]) (fun k => s.length - k) 0 (by omega) ?_ ?_
   ·exact .p3 <| .sl <| .slot rfl (Le.of_eq (by simp)) <| .mem rfl <| .memEq rfl (by rw [lvM_end]; rfl) <| .mem rfl <| .nil
   ·rintro k hkl
    refine .g <| .r <| .x (.b blss) ?_; refine .sq <| .g <| .cond rfl (fun c29 => ?_) (fun c29 => ?_)
    ·have hk : k < s.length := by simpa using c29
     have hsk := hs _ (nth_mem (l := s) (n := k) (by omega) (by omega))
     have hvl := (lvI_k (t := t) hV hs (k := k) (by omega)).1
     refine .p <| .g <| .g <| .k <| .g <| .r <| .x (.i es22) ?_; refine .x (.l1 vs3) ?_; refine .a ?_; refine .y <| .x (.l vs22) ?_; refine .m ?_; refine .x (OpSem.idxo rfl rfl rfl rfl es22 (by omega) (by simp; omega)) ?_; refine .storeq rfl rfl rfl rfl rfl rfl rfl vs3 (rows_get (by omega) (by omega)) (by simp) ?_; refine .n <| .n <| .y <| .x .ad ?_; refine .m ?_; refine .n <| .again (k + 1) (by omega) ?_ (by omega); exact .p3 <| .sl <| .slot rfl (Le.of_eq (by simp)) <| .mem rfl <| .memEq rfl (by exact congrArg (Mo.own 1 3) (rows_set (f := fun n => [D.v (.int .i64 n)]))) <| .mem rfl <| .nil
    ·have hk : k = s.length := by simp at c29; omega
     subst hk
     refine .u <| .u <| .u <| .b <| .g <| .g <| .g <| .r <| .al 9 zc3 ?_; refine .sb vs3 ?_; refine .sq <| .k <| .loop (X := Nat) (fun k => k ≤ t.facts.toNat) (fun k => [(2, .r 2 0), (5, .r 5 0), (9, .r 9 0)]) (fun k => [(5, .box [.o 16]), (9, .box [I (((k + 1 : Nat) : Int))]), (16, .own 1 3 ((lvL t s k).map fun n => [D.v (.int .i64 n)])), (2, .box [I (t.facts), .d (ints t.ini), .d (ints t.goal), .d (sopsD t.ops)])]) (fun k => t.facts.toNat - k) 0 (by omega) ?_ ?_
     ·exact .p3 <| .mem rfl <| .boxLe rfl (.cons (Le.i rfl) <| .nil) <| .memEq rfl rfl <| .mem rfl <| .nil
     ·rintro k hkl
      refine .g <| .g <| .r <| .x (.l vs3) ?_; refine .x (.f fo25_0) ?_; refine .x (.l vs3) ?_; refine .x (.b bleq) ?_; refine .sq <| .cond rfl (fun c39 => ?_) (fun c39 => ?_)
      ·have hk : k < t.facts.toNat := by simp at c39; omega
       have hLk := (lvL_k (t := t) (s := s) hV hs (k := k)).1.l
       refine .p <| .g <| .g <| .k <| .g <| .r <| .x (.f fo25_3) ?_; refine .x (.l vs23) ?_; refine .x (.n es23) ?_; refine .m ?_; refine .sq <| .k <| .loop (X := Nat) (fun i => i ≤ t.ops.length) (fun i => [(2, .r 2 0), (5, .r 5 0), (9, .r 9 0), (43, .d (sopsD t.ops)), (44, I (t.ops.length)), (45, I (i))]) (fun i => [(5, .box [.o 16]), (9, .box [I (((k + 1 : Nat) : Int))]), (16, .own 1 3 ((lvP t ((k + 1 : Nat) : Int) (lvL t s k) i).map fun n => [D.v (.int .i64 n)])), (2, .box [I (t.facts), .d (ints t.ini), .d (ints t.goal), .d (sopsD t.ops)])]) (fun i => t.ops.length - i) 0 (by omega) ?_ ?_
       ·exact .p5 <| .slot rfl (Le.of_eq (by simp)) <| .mem rfl <| .mem rfl <| .memEq rfl rfl <| .mem rfl <| .nil
       ·rintro i hil
        refine .g <| .r <| .x (.b blss) ?_; refine .sq <| .g <| .cond rfl (fun c46 => ?_) (fun c46 => ?_)
        ·have hi : i < t.ops.length := by simpa using c46
         have hP := (lvP_s (lev := ((k + 1 : Nat) : Int)) hV (by omega) hLk (i := i) (by omega)).l
         have hpre := (hV.op i hi).1.1
         have hadd := set_rng (hV.op i hi).1.2.1
         have hadl := setP_len (hV.op i hi).1.2.1 hf0.2
         refine .p <| .g <| .g <| .k <| .g <| .r <| .x (.i es23) ?_; refine .x (.lN vs41) ?_; refine .al 11 zc41 ?_; refine .sb vs41 ?_; refine .sq <| .g <| .g <| .r <| .x (.f fo41_0) ?_; refine .x (.l vs22) ?_; refine .x (OpSem.makeFunc rfl rfl rfl) ?_; refine .x (OpSem.call (slices_ContainsFunc_int_int_does (nth t.ops i).pre 60 [.p [ints (lvP t ((k + 1 : Nat) : Int) (lvL t s k) i)], .p [.v (.int .i64 ((k + 1 : Nat) : Int))]] (fun p => decide (lvB ((k + 1 : Nat) : Int) (lvP t ((k + 1 : Nat) : Int) (lvL t s k) i) p)) (caught_p2 _ _) (fun x hx => relaxplan_levels_1_does (lvP t ((k + 1 : Nat) : Int) (lvL t s k) i) ((k + 1 : Nat) : Int) x (setP_mem hpre hx).1 (by have := (setP_mem hpre hx).2; omega))) (.inr rfl) rfl rfl rfl rfl (Les.refl _)) ?_; refine .sq <| .cond rfl (fun c52 => ?_) (fun c52 => ?_)
         ·have hst : lvP t ((k + 1 : Nat) : Int) (lvL t s k) (i + 1) = (lvP t ((k + 1 : Nat) : Int) (lvL t s k) i) := by show lvO t _ (lvP t ((k + 1 : Nat) : Int) (lvL t s k) i) i = _; unfold lvO; rw [if_pos c52]
          refine .u <| .u <| .b <| .y <| .x .ad ?_; refine .m ?_; refine .n <| .again (i + 1) (by omega) ?_ (by omega); exact .p5 <| .slot rfl (Le.of_eq (by simp)) <| .mem rfl <| .mem rfl <| .memEq rfl (by rw [hst] <;> rfl) <| .mem rfl <| .nil
         ·have hst : lvP t ((k + 1 : Nat) : Int) (lvL t s k) (i + 1) = lvA ((k + 1 : Nat) : Int) (nth t.ops i).add (lvP t ((k + 1 : Nat) : Int) (lvL t s k) i) (nth t.ops i).add.length := by show lvO t _ (lvP t ((k + 1 : Nat) : Int) (lvL t s k) i) i = _; unfold lvO; rw [if_neg (by simpa using c52)]
          refine .p <| .z <| .x (.f fo41_1) ?_; refine .x (.l vs22) ?_; refine .x (.n es22) ?_; refine .m ?_; refine .sq <| .k <| .loop (X := Nat) (fun j => j ≤ (nth t.ops i).add.length) (fun j => [(2, .r 2 0), (5, .r 5 0), (9, .r 9 0), (43, .d (sopsD t.ops)), (44, I (t.ops.length)), (45, I (i)), (54, .d (ints ((nth t.ops i).add))), (55, I (((nth t.ops i).add).length)), (56, I (j))]) (fun j => [(5, .box [.o 16]), (9, .box [I (((k + 1 : Nat) : Int))]), (16, .own 1 3 ((lvA ((k + 1 : Nat) : Int) (nth t.ops i).add (lvP t ((k + 1 : Nat) : Int) (lvL t s k) i) j).map fun n => [D.v (.int .i64 n)])), (2, .box [I (t.facts), .d (ints t.ini), .d (ints t.goal), .d (sopsD t.ops)])]) (fun j => (nth t.ops i).add.length - j) 0 (by omega) ?_ ?_
          ·exact .p5 <| .p3 <| .slot rfl (Le.of_eq (by simp)) <| .mem rfl <| .mem rfl <| .memEq rfl rfl <| .mem rfl <| .nil
          ·rintro j hjl
           refine .g <| .r <| .x (.b blss) ?_; refine .sq <| .g <| .cond rfl (fun c57 => ?_) (fun c57 => ?_)
           ·have hj : j < (nth t.ops i).add.length := by simpa using c57
            have hAJ := (lvA_s (lev := ((k + 1 : Nat) : Int)) (by omega) (fun p hp => setP_mem (hV.op i hi).1.2.1 hp) hP (j := j) (by omega)).1.l
            have hpj := hadd j hj
            refine .p <| .g <| .g <| .k <| .g <| .r <| .x (.i es22) ?_; refine .x (.l1 vs3) ?_; refine .a ?_; refine .z <| .x (.l vs22) ?_; refine .m ?_; refine .x (OpSem.idxo rfl rfl rfl rfl es22 (by omega) (by rw [List.length_map]; omega)) ?_; refine .x (OpSem.loadq rfl rfl rfl vs3 (rows_get (by omega) (by omega)) rfl) ?_; refine .x (.b blss) ?_; refine .sq <| .cond rfl (fun c64 => ?_) (fun c64 => ?_)
            ·have hsj : lvA ((k + 1 : Nat) : Int) (nth t.ops i).add (lvP t ((k + 1 : Nat) : Int) (lvL t s k) i) (j + 1) = (lvA ((k + 1 : Nat) : Int) (nth t.ops i).add (lvP t ((k + 1 : Nat) : Int) (lvL t s k) i) j).set (nth (nth t.ops i).add j).toNat ((k + 1 : Nat) : Int) := by simp only [lvA]; rw [if_pos (by simpa using c64)]
             refine .r <| .x (.l vs22) ?_; refine .m ?_; refine .x (.l vs3) ?_; refine .x (OpSem.idxo rfl rfl rfl rfl es22 (by omega) (by rw [List.length_map]; omega)) ?_; refine .storeq rfl rfl rfl rfl rfl rfl rfl vs3 (rows_get (by omega) (by omega)) (by simp) ?_; refine .n <| .n <| .y <| .x .ad ?_; refine .m ?_; refine .n <| .again (j + 1) (by omega) ?_ (by omega); exact .p5 <| .p3 <| .slot rfl (Le.of_eq (by simp)) <| .mem rfl <| .mem rfl <| .memEq rfl (by rw [hsj]; exact congrArg (Mo.own 1 3) (rows_set (f := fun n => [D.v (.int .i64 n)]))) <| .mem rfl <| .nil
            ·have hsj : lvA ((k + 1 : Nat) : Int) (nth t.ops i).add (lvP t ((k + 1 : Nat) : Int) (lvL t s k) i) (j + 1) = (lvA ((k + 1 : Nat) : Int) (nth t.ops i).add (lvP t ((k + 1 : Nat) : Int) (lvL t s k) i) j) := by simp only [lvA]; rw [if_neg (by simpa using c64)]
             refine .p <| .n <| .y <| .x .ad ?_; refine .m ?_; refine .n <| .again (j + 1) (by omega) ?_ (by omega); exact .p5 <| .p3 <| .slot rfl (Le.of_eq (by simp)) <| .mem rfl <| .mem rfl <| .memEq rfl (by rw [hsj] <;> rfl) <| .mem rfl <| .nil
           ·have hj : j = (nth t.ops i).add.length := by simp at c57; omega
            subst hj
            refine .u <| .u <| .u <| .b <| .n <| .y <| .x .ad ?_; refine .m ?_; refine .n <| .again (i + 1) (by omega) ?_ (by omega); exact .p5 <| .slot rfl (Le.of_eq (by simp)) <| .mem rfl <| .mem rfl <| .memEq rfl (by rw [hst] <;> rfl) <| .mem rfl <| .nil
        ·have hi : i = t.ops.length := by simp at c46; omega
         subst hi
         refine .u <| .u <| .u <| .b <| .n <| .g <| .g <| .g <| .r <| .x (.l vs3) ?_; refine .y <| .al 9 zc3 ?_; refine .sb vs3 ?_; refine .y <| .x (.l vs3) ?_; refine .x .ad ?_; refine .sb vs3 ?_; refine .n <| .again (k + 1) (by omega) ?_ (by omega); exact .p3 <| .mem rfl <| .boxLe rfl (.cons (Le.i (by omega)) <| .nil) <| .memEq rfl rfl <| .mem rfl <| .nil
      ·have hk : k = t.facts.toNat := by simp at c39; omega
       subst hk
       refine .u <| .u <| .u <| .b <| .z <| .x (.l vs22) ?_; refine .a ?_; exact .sq <| .t <| .retO2 rfl rfl rfl (by simp) (rfl)
theorem relaxplan_supporters_does (t : Tsk) (s : List Int) (hV : TskV t) (hS : SetP t.facts s) : DoesO Tryz.prog 34 [tskS t, .d (ints s)] 1 3 (((spF t s).map fun n => [D.v (.int .i64 n)])) := by
 have hf0 := hV.facts
 have hol := hV.ops
 have hs : ∀ p, p ∈ s → 0 ≤ p ∧ p < t.facts := fun p hp => setP_mem hS hp
 have hl := (lvl_spec (t := t) (s := s) hV hs).1
 have hll := hl.l
 have hlr := hl.r
 refine DoesO.of_body Tryz.func34 rfl rfl (by simp) Tryz.call34 (fun w0 O0 => ?_); refine .lg 0 1 fun len0_1 => ?_; refine .lg 0 2 fun len0_2 => ?_; refine .lg 0 3 fun len0_3 => ?_; refine .le 1 fun len1 => ?_; refine .g <| .r <| .bx 2 ?_; refine .a ?_; refine .z <| .x (.L vs25) ?_; refine .m ?_; refine .x (OpSem.call0 (relaxplan_levels_does t s hV hS).fresh rfl rfl rfl rfl (Les.refl _)) ?_; refine .a ?_; refine .z <| .x (.f fo25_0) ?_; refine .x (.l vs3) ?_; refine .mk 22 es22 ze22 bye22 ?_; refine .a ?_; refine .z <| .x (.f fo25_0) ?_; refine .x (.l vs3) ?_; refine .mk 25 es22 ze22 bye22 ?_; refine .a ?_; refine .sq <| .g <| .g <| .r <| .m ?_; refine .x (OpSem.leno rfl rfl rfl es22) ?_; refine .m ?_; refine .sq <| .k <| .loop (X := Nat) (fun k => k ≤ t.facts.toNat) (fun k => [(2, .r 2 0), (5, .d (ints (lvlF t s))), (6, .o 22), (7, .o 25), (27, I (t.facts)), (28, I (k))]) (fun k => [(22, .own 1 3 ((lvM t.facts.toNat k).map fun n => [D.v (.int .i64 n)])), (25, .own 1 3 ((List.replicate t.facts.toNat 0).map fun n => [D.v (.int .i64 n)])), (2, .box [I (t.facts), .d (ints t.ini), .d (ints t.goal), .d (sopsD t.ops)])]) (fun k => t.facts.toNat - k) 0 (by omega) ?_ ?_
 ·exact .p3 <| .sl <| .slot rfl (Le.i (by simp; omega)) <| .slot rfl (Le.of_eq (by simp)) <| .memEq rfl (by rw [el22, lvM_0]; first | (simp; done) | (simp; rfl)) <| .memEq rfl (by rw [el22]; first | (simp; done) | (simp; rfl)) <| .mem rfl <| .nil
 ·rintro k hkl
  refine .g <| .r <| .x (.b blss) ?_; refine .sq <| .g <| .cond rfl (fun c29 => ?_) (fun c29 => ?_)
  ·have hk : k < t.facts.toNat := by simp at c29; omega
   refine .p <| .g <| .g <| .k <| .g <| .r <| .m ?_; refine .a ?_; refine .y <| .mm ?_; refine .x (OpSem.idxo rfl rfl rfl rfl es22 (by omega) (by simp [lvM_len]; omega)) ?_; refine .storeq rfl rfl rfl rfl rfl rfl rfl vs3 (rows_get (by omega) (by rw [lvM_len]; omega)) (by simp) ?_; refine .n <| .n <| .y <| .x .ad ?_; refine .m ?_; refine .n <| .again (k + 1) (by omega) ?_ (by omega); exact .p5 <| .slot rfl (Le.of_eq (by simp)) <| .memEq rfl (by rw [← lvM_s hk]; exact congrArg (Mo.own 1 3) (rows_set (f := fun n => [D.v (.int .i64 n)]))) <| .all
  ·have hk : k = t.facts.toNat := by simp at c29; omega
   subst hk
   refine .u <| .u <| .u <| .b <| .g <| .g <| .g <| .r <| .x (.f fo25_3) ?_; refine .x (.l vs23) ?_; refine .x (.n es23) ?_; refine .m ?_; refine .sq <| .k <| .loop (X := Nat) (fun i => i ≤ t.ops.length) (fun i => [(2, .r 2 0), (5, .d (ints (lvlF t s))), (6, .o 22), (7, .o 25), (36, .d (sopsD t.ops)), (37, I (t.ops.length)), (38, I (i))]) (fun i => [(22, .own 1 3 (((spP t (lvlF t s) i).1).map fun n => [D.v (.int .i64 n)])), (25, .own 1 3 (((spP t (lvlF t s) i).2).map fun n => [D.v (.int .i64 n)])), (2, .box [I (t.facts), .d (ints t.ini), .d (ints t.goal), .d (sopsD t.ops)])]) (fun i => t.ops.length - i) 0 (by omega) ?_ ?_
   ·exact .p5 <| .sl <| .slot rfl (Le.of_eq (by simp)) <| .memEq rfl (by rw [lvM_end]; rfl) <| .memEq rfl rfl <| .mem rfl <| .nil
   ·rintro i hil
    refine .g <| .r <| .x (.b blss) ?_; refine .sq <| .g <| .cond rfl (fun c39 => ?_) (fun c39 => ?_)
    ·have hi : i < t.ops.length := by simpa using c39
     have hK := spP_k hV hl (i := i) (by omega)
     have hpre := set_rng (hV.op i hi).1.1
     have hprl := setP_len (hV.op i hi).1.1 hf0.2
     have hadd := set_rng (hV.op i hi).1.2.1
     have hadl := setP_len (hV.op i hi).1.2.1 hf0.2
     refine .p <| .g <| .g <| .k <| .g <| .r <| .m ?_; refine .x (.i es23) ?_; refine .x (.lN vs41) ?_; refine .al 10 zc41 ?_; refine .a ?_; refine .sb vs41 ?_; refine .z <| .a ?_; refine .a ?_; refine .sq <| .g <| .g <| .r <| .x (.f fo41_0) ?_; refine .x (.l vs22) ?_; refine .x (.n es22) ?_; refine .m ?_; refine .sq <| .k <| .loop (X := Nat) (fun k => k ≤ (nth t.ops i).pre.length) (fun k => [(2, .r 2 0), (5, .d (ints (lvlF t s))), (6, .o 22), (7, .o 25), (9, I (i)), (10, .r 10 0), (11, I (smT (lvlF t s) (nth t.ops i).pre k)), (12, I (tpT t.facts (lvlF t s) (nth t.ops i).pre k)), (36, .d (sopsD t.ops)), (37, I (t.ops.length)), (38, I (i)), (44, .d (ints ((nth t.ops i).pre))), (45, I (((nth t.ops i).pre).length)), (46, I (k))]) (fun k => [(22, .own 1 3 (((spP t (lvlF t s) i).1).map fun n => [D.v (.int .i64 n)])), (25, .own 1 3 (((spP t (lvlF t s) i).2).map fun n => [D.v (.int .i64 n)])), (2, .box [I (t.facts), .d (ints t.ini), .d (ints t.goal), .d (sopsD t.ops)]), (10, .box [.d (ints ((nth t.ops i).pre)), .d (ints ((nth t.ops i).add)), .d (ints ((nth t.ops i).del)), I ((nth t.ops i).cost)])]) (fun k => (nth t.ops i).pre.length - k) 0 (by omega) ?_ ?_
     ·exact .p5 <| .sl <| .slot rfl (Le.of_eq rfl) <| .slot rfl (Le.of_eq rfl) <| .p5 <| .slot rfl (Le.of_eq (by simp)) <| .memEq rfl rfl <| .memEq rfl rfl <| .all
     ·rintro k hkl
      refine .g <| .r <| .x (.b blss) ?_; refine .sq <| .g <| .cond rfl (fun c47 => ?_) (fun c47 => ?_)
      ·have hk : k < (nth t.ops i).pre.length := by simpa using c47
       have hpk := hpre k hk
       have hpr := hlr _ hpk.1 hpk.2
       have hsm := smT_rng hlr hf0.2 hpre (k := k) (by omega)
       refine .p <| .g <| .g <| .k <| .g <| .r <| .x (.i es22) ?_; refine .x (.l1 vs3) ?_; refine .a ?_; refine .z <| .mm ?_; refine .m ?_; refine .x (.i es22) ?_; refine .x (.l1 vs3) ?_; refine .x .ad ?_; refine .a ?_; refine .z <| .mm ?_; refine .m ?_; refine .x (.i es22) ?_; refine .x (.l1 vs3) ?_; refine .x (OpSem.max2 rfl rfl rfl) ?_; refine .a ?_; refine .z <| .mm ?_; refine .x (.i es22) ?_; refine .x (.l1 vs3) ?_; refine .x (.b blss) ?_; refine .sq <| .cond rfl (fun c66 => ?_) (fun c66 => ?_)
       ·have hsk : tpT t.facts (lvlF t s) (nth t.ops i).pre (k + 1) = t.facts := by simp only [tpT]; rw [if_pos (by simpa using c66)]
        refine .r <| .x (.f fo25_0) ?_; refine .x (.l vs3) ?_; refine .a ?_; refine .n <| .n <| .y <| .x .ad ?_; refine .m ?_; refine .n <| .again (k + 1) (by omega) ?_ (by omega); exact .p5 <| .sl <| .slot rfl (Le.of_eq rfl) <| .slot rfl (Le.i (by rw [hsk])) <| .p5 <| .slot rfl (Le.of_eq (by simp)) <| .all
       ·have hsk : tpT t.facts (lvlF t s) (nth t.ops i).pre (k + 1) = max (tpT t.facts (lvlF t s) (nth t.ops i).pre k) (nth (lvlF t s) (nth (nth t.ops i).pre k)) := by simp only [tpT]; rw [if_neg (by simpa using c66)]
        refine .p <| .n <| .y <| .x .ad ?_; refine .m ?_; refine .n <| .again (k + 1) (by omega) ?_ (by omega); exact .p5 <| .sl <| .slot rfl (Le.of_eq rfl) <| .slot rfl (Le.i (by rw [hsk])) <| .p5 <| .slot rfl (Le.of_eq (by simp)) <| .all
      ·have hk : k = (nth t.ops i).pre.length := by simp at c47; omega
       subst hk
       refine .u <| .u <| .u <| .b <| .z <| .x (.f fo41_1) ?_; refine .x (.l vs22) ?_; refine .x (.n es22) ?_; refine .m ?_; refine .sq <| .k <| .loop (X := Nat) (fun j => j ≤ (nth t.ops i).add.length) (fun j => [(2, .r 2 0), (5, .d (ints (lvlF t s))), (6, .o 22), (7, .o 25), (9, I (i)), (11, I ((smT (lvlF t s) (nth t.ops i).pre (nth t.ops i).pre.length))), (12, I ((tpT t.facts (lvlF t s) (nth t.ops i).pre (nth t.ops i).pre.length))), (36, .d (sopsD t.ops)), (37, I (t.ops.length)), (38, I (i)), (71, .d (ints ((nth t.ops i).add))), (72, I (((nth t.ops i).add).length)), (73, I (j))]) (fun j => [(22, .own 1 3 (((spA (lvlF t s) (nth t.ops i).add i (smT (lvlF t s) (nth t.ops i).pre (nth t.ops i).pre.length) (tpT t.facts (lvlF t s) (nth t.ops i).pre (nth t.ops i).pre.length) (spP t (lvlF t s) i) j).1).map fun n => [D.v (.int .i64 n)])), (25, .own 1 3 (((spA (lvlF t s) (nth t.ops i).add i (smT (lvlF t s) (nth t.ops i).pre (nth t.ops i).pre.length) (tpT t.facts (lvlF t s) (nth t.ops i).pre (nth t.ops i).pre.length) (spP t (lvlF t s) i) j).2).map fun n => [D.v (.int .i64 n)])), (2, .box [I (t.facts), .d (ints t.ini), .d (ints t.goal), .d (sopsD t.ops)])]) (fun j => (nth t.ops i).add.length - j) 0 (by omega) ?_ ?_
       ·exact .p5 <| .p5 <| .p2 <| .slot rfl (Le.of_eq (by simp)) <| .memEq rfl rfl <| .memEq rfl rfl <| .mem rfl <| .nil
       ·rintro j hjl
        refine .g <| .r <| .x (.b blss) ?_; refine .sq <| .g <| .cond rfl (fun c74 => ?_) (fun c74 => ?_)
        ·have hj : j < (nth t.ops i).add.length := by simpa using c74
         have hpj := hadd j hj
         have hKJ := (spA_k hV hl hi hK (j := j) (by omega)).1
         have hk1 := hKJ.l1
         have hk2 := hKJ.l2
         refine .p <| .g <| .g <| .k <| .g <| .r <| .x (.i es22) ?_; refine .x (.l1 vs3) ?_; refine .a ?_; refine .z <| .mm ?_; refine .x (.i es22) ?_; refine .x (.l1 vs3) ?_; refine .m ?_; refine .x (.b bgtr) ?_; refine .m ?_; refine .split (n := 83) rfl (fun c83 => ?_) (fun c83 => ?_)
         ·refine .gt c83 ?_; refine .m ?_; refine .gt c83 ?_; refine .m ?_; refine .gt c83 ?_; refine .x (.i es22) ?_; refine .gt c83 ?_; refine .x (.l1 vs3) ?_; refine .gt c83 ?_; refine .x (.b bgtr) ?_; refine .x (OpSem.pickT rfl rfl c83 rfl) ?_; refine .m ?_; refine .split (n := 90) rfl (fun c90 => ?_) (fun c90 => ?_)
          ·refine .gt c90 ?_; refine .m ?_; refine .gt c90 ?_; refine .m ?_; refine .gt c90 ?_; refine .x (OpSem.idxo rfl rfl rfl rfl es22 (by omega) (by simp; omega)) ?_; refine .gt c90 ?_; refine .x (OpSem.loadq rfl rfl rfl vs3 (rows_get (by omega) (by omega)) rfl) ?_; refine .gt c90 ?_; refine .x (.b blss) ?_; refine .gt c90 ?_; refine .m ?_; refine .split (n := 96) rfl (fun c96 => ?_) (fun c96 => ?_)
           ·have hsj : spA (lvlF t s) (nth t.ops i).add i (smT (lvlF t s) (nth t.ops i).pre (nth t.ops i).pre.length) (tpT t.facts (lvlF t s) (nth t.ops i).pre (nth t.ops i).pre.length) (spP t (lvlF t s) i) (j + 1) = ((spA (lvlF t s) (nth t.ops i).add i (smT (lvlF t s) (nth t.ops i).pre (nth t.ops i).pre.length) (tpT t.facts (lvlF t s) (nth t.ops i).pre (nth t.ops i).pre.length) (spP t (lvlF t s) i) j).1.set (nth (nth t.ops i).add j).toNat (i : Int), (spA (lvlF t s) (nth t.ops i).add i (smT (lvlF t s) (nth t.ops i).pre (nth t.ops i).pre.length) (tpT t.facts (lvlF t s) (nth t.ops i).pre (nth t.ops i).pre.length) (spP t (lvlF t s) i) j).2.set (nth (nth t.ops i).add j).toNat (smT (lvlF t s) (nth t.ops i).pre (nth t.ops i).pre.length)) := by simp only [spA]; rw [if_pos ⟨⟨by simpa using c83, by simpa using c90⟩, .inl (by simpa using c96)⟩]
            refine .hf c96 ?_; refine .hf c96 ?_; refine .hf c96 ?_; refine .hf c96 ?_; refine .hf c96 ?_; refine .hf c96 ?_; refine .gt c90 ?_; refine .x (OpSem.pickT rfl rfl c96 rfl) ?_; refine .x (OpSem.pickT rfl rfl c90 rfl) ?_; refine .sq <| .condT rfl rfl ?_; refine .r <| .mm ?_; refine .mm ?_; refine .mm ?_; refine .x (OpSem.idxo rfl rfl rfl rfl es22 (by omega) (by simp; omega)) ?_; refine .storeq rfl rfl rfl rfl rfl rfl rfl vs3 (rows_get (by omega) (by omega)) (by simp) ?_; refine .x (OpSem.idxo rfl rfl rfl rfl es22 (by omega) (by simp; omega)) ?_; refine .storeq rfl rfl rfl rfl rfl rfl rfl vs3 (rows_get (by omega) (by omega)) (by simp) ?_; refine .n <| .n <| .y <| .x .ad ?_; refine .m ?_; refine .n <| .again (j + 1) (by omega) ?_ (by omega); exact .p5 <| .p5 <| .p2 <| .slot rfl (Le.of_eq (by simp)) <| .memEq rfl (by rw [hsj]; exact congrArg (Mo.own 1 3) (rows_set (f := fun n => [D.v (.int .i64 n)]))) <| .memEq rfl (by rw [hsj]; exact congrArg (Mo.own 1 3) (rows_set (f := fun n => [D.v (.int .i64 n)]))) <| .mem rfl <| .nil
           ·refine .ht c96 ?_; refine .m ?_; refine .ht c96 ?_; refine .m ?_; refine .ht c96 ?_; refine .m ?_; refine .ht c96 ?_; refine .x (OpSem.idxo rfl rfl rfl rfl es22 (by omega) (by simp; omega)) ?_; refine .ht c96 ?_; refine .x (OpSem.loadq rfl rfl rfl vs3 (rows_get (by omega) (by omega)) rfl) ?_; refine .ht c96 ?_; refine .x (.b blss) ?_; refine .gt c90 ?_; refine .x (OpSem.pickF rfl rfl c96 rfl) ?_; refine .x (OpSem.pickT rfl rfl c90 rfl) ?_; refine .sq <| .cond rfl (fun c104 => ?_) (fun c104 => ?_)
            ·have hsj : spA (lvlF t s) (nth t.ops i).add i (smT (lvlF t s) (nth t.ops i).pre (nth t.ops i).pre.length) (tpT t.facts (lvlF t s) (nth t.ops i).pre (nth t.ops i).pre.length) (spP t (lvlF t s) i) (j + 1) = ((spA (lvlF t s) (nth t.ops i).add i (smT (lvlF t s) (nth t.ops i).pre (nth t.ops i).pre.length) (tpT t.facts (lvlF t s) (nth t.ops i).pre (nth t.ops i).pre.length) (spP t (lvlF t s) i) j).1.set (nth (nth t.ops i).add j).toNat (i : Int), (spA (lvlF t s) (nth t.ops i).add i (smT (lvlF t s) (nth t.ops i).pre (nth t.ops i).pre.length) (tpT t.facts (lvlF t s) (nth t.ops i).pre (nth t.ops i).pre.length) (spP t (lvlF t s) i) j).2.set (nth (nth t.ops i).add j).toNat (smT (lvlF t s) (nth t.ops i).pre (nth t.ops i).pre.length)) := by simp only [spA]; rw [if_pos ⟨⟨by simpa using c83, by simpa using c90⟩, .inr (by simpa using c104)⟩]
             refine .r <| .mm ?_; refine .mm ?_; refine .mm ?_; refine .x (OpSem.idxo rfl rfl rfl rfl es22 (by omega) (by simp; omega)) ?_; refine .storeq rfl rfl rfl rfl rfl rfl rfl vs3 (rows_get (by omega) (by omega)) (by simp) ?_; refine .x (OpSem.idxo rfl rfl rfl rfl es22 (by omega) (by simp; omega)) ?_; refine .storeq rfl rfl rfl rfl rfl rfl rfl vs3 (rows_get (by omega) (by omega)) (by simp) ?_; refine .n <| .n <| .y <| .x .ad ?_; refine .m ?_; refine .n <| .again (j + 1) (by omega) ?_ (by omega); exact .p5 <| .p5 <| .p2 <| .slot rfl (Le.of_eq (by simp)) <| .memEq rfl (by rw [hsj]; exact congrArg (Mo.own 1 3) (rows_set (f := fun n => [D.v (.int .i64 n)]))) <| .memEq rfl (by rw [hsj]; exact congrArg (Mo.own 1 3) (rows_set (f := fun n => [D.v (.int .i64 n)]))) <| .mem rfl <| .nil
            ·have hsj : spA (lvlF t s) (nth t.ops i).add i (smT (lvlF t s) (nth t.ops i).pre (nth t.ops i).pre.length) (tpT t.facts (lvlF t s) (nth t.ops i).pre (nth t.ops i).pre.length) (spP t (lvlF t s) i) (j + 1) = (spA (lvlF t s) (nth t.ops i).add i (smT (lvlF t s) (nth t.ops i).pre (nth t.ops i).pre.length) (tpT t.facts (lvlF t s) (nth t.ops i).pre (nth t.ops i).pre.length) (spP t (lvlF t s) i) j) := by simp only [spA]; rw [if_neg (fun h => h.2.elim (by simpa using c96) (by simpa using c104))]
             refine .p <| .n <| .y <| .x .ad ?_; refine .m ?_; refine .n <| .again (j + 1) (by omega) ?_ (by omega); exact .p5 <| .p5 <| .p2 <| .slot rfl (Le.of_eq (by simp)) <| .memEq rfl (by rw [hsj] <;> rfl) <| .memEq rfl (by rw [hsj] <;> rfl) <| .mem rfl <| .nil
          ·have hsj : spA (lvlF t s) (nth t.ops i).add i (smT (lvlF t s) (nth t.ops i).pre (nth t.ops i).pre.length) (tpT t.facts (lvlF t s) (nth t.ops i).pre (nth t.ops i).pre.length) (spP t (lvlF t s) i) (j + 1) = (spA (lvlF t s) (nth t.ops i).add i (smT (lvlF t s) (nth t.ops i).pre (nth t.ops i).pre.length) (tpT t.facts (lvlF t s) (nth t.ops i).pre (nth t.ops i).pre.length) (spP t (lvlF t s) i) j) := by simp only [spA]; rw [if_neg (fun h => by have := h.1.2; simp at c90; omega)]
           refine .gf c90 ?_; refine .gf c90 ?_; refine .gf c90 ?_; refine .gf c90 ?_; refine .gf c90 ?_; refine .gf c90 ?_; refine .gu ?_; refine .gu ?_; refine .gu ?_; refine .gu ?_; refine .gu ?_; refine .gu ?_; refine .gf c90 ?_; refine .x (OpSem.pickF rfl rfl c90 rfl) ?_; refine .sq <| .condF rfl rfl ?_; refine .p <| .n <| .y <| .x .ad ?_; refine .m ?_; refine .n <| .again (j + 1) (by omega) ?_ (by omega); exact .p5 <| .p5 <| .p2 <| .slot rfl (Le.of_eq (by simp)) <| .memEq rfl (by rw [hsj] <;> rfl) <| .memEq rfl (by rw [hsj] <;> rfl) <| .mem rfl <| .nil
         ·have hsj : spA (lvlF t s) (nth t.ops i).add i (smT (lvlF t s) (nth t.ops i).pre (nth t.ops i).pre.length) (tpT t.facts (lvlF t s) (nth t.ops i).pre (nth t.ops i).pre.length) (spP t (lvlF t s) i) (j + 1) = (spA (lvlF t s) (nth t.ops i).add i (smT (lvlF t s) (nth t.ops i).pre (nth t.ops i).pre.length) (tpT t.facts (lvlF t s) (nth t.ops i).pre (nth t.ops i).pre.length) (spP t (lvlF t s) i) j) := by simp only [spA]; rw [if_neg (fun h => by have := h.1.1; simp at c83; omega)]
          refine .gf c83 ?_; refine .gf c83 ?_; refine .gf c83 ?_; refine .gf c83 ?_; refine .gf c83 ?_; refine .x (OpSem.pickF rfl rfl c83 rfl) ?_; refine .m ?_; refine .gf rfl ?_; refine .gf rfl ?_; refine .gf rfl ?_; refine .gf rfl ?_; refine .gf rfl ?_; refine .gf rfl ?_; refine .gu ?_; refine .gu ?_; refine .gu ?_; refine .gu ?_; refine .gu ?_; refine .gu ?_; refine .gf rfl ?_; refine .x (OpSem.pickF rfl rfl rfl rfl) ?_; refine .sq <| .condF rfl rfl ?_; refine .p <| .n <| .y <| .x .ad ?_; refine .m ?_; refine .n <| .again (j + 1) (by omega) ?_ (by omega); exact .p5 <| .p5 <| .p2 <| .slot rfl (Le.of_eq (by simp)) <| .memEq rfl (by rw [hsj] <;> rfl) <| .memEq rfl (by rw [hsj] <;> rfl) <| .mem rfl <| .nil
        ·have hj : j = (nth t.ops i).add.length := by simp at c74; omega
         subst hj
         refine .u <| .u <| .u <| .b <| .n <| .y <| .x .ad ?_; refine .m ?_; refine .n <| .again (i + 1) (by omega) ?_ (by omega); exact .p5 <| .sl <| .slot rfl (Le.of_eq (by simp)) <| .memEq rfl rfl <| .memEq rfl rfl <| .mem rfl <| .nil
    ·have hi : i = t.ops.length := by simp at c39; omega
     subst hi
     refine .u <| .u <| .u <| .b <| .z <| .m ?_; refine .a ?_; exact .sq <| .t <| .retO2 rfl rfl rfl (by simp) (rfl)
end Go.Proofs.YthjmgcopfipabaaGreat
end
