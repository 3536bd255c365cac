/-
  A part of the proof: predicate transformers over the model, and a separation logic over them; what functions of the program do.
-/
import Derived.Test.YtldmeimebebllaaGreatDoorPart1
import Derived.Laws.Strings
set_option linter.unusedSimpArgs false
namespace Go.Proofs.Ytldmeimebebllaa
open Go.Mo
set_option linter.unusedVariables false
variable {g : Fr}
def OpenB (n ns : Nat) (q m : G3) : Bool := RightB q && ((n : Int) == q.1 + 1 && ((ns : Int) == SectorsI q && FitsB q m))
theorem open_tree (n ns : Nat) (q m : G3) :
    (if (if (if (!RightB q) = true then true else ((n : Int) != w64 (q.1 + 1))) = true then true else ((ns : Int) != SectorsI q)) = true then true else !FitsB q m) = !OpenB n ns q m := by
  unfold OpenB
  by_cases h1 : RightB q = true
  · have h2 := (RightB.bnd h1).d16
    have h3 := (RightB.bnd h1).d3
    rw [w64_id (by omega) (by omega)]
    by_cases h4 : (n : Int) = q.1 + 1
    · by_cases h5 : (ns : Int) = SectorsI q
      · simp [h1, h4, h5]
      · simp [h1, h4, h5]
    · simp [h1, h4]
  · simp [h1]
theorem bank_Open_spec (rb : Nat) (R : Rk) (ds : Slc) (ps : List Nat) (q m : G3) : wps g (rackP rb R ds ps) (bank_Open (ptr rb) q m) (fun x =>
    if OpenB R.n R.ns q m then ex fun bb => pr (x = (ptr bb, 0)) * rackP rb R ds ps * bnk bb rb q m else pr (x = (none, 10)) * rackP rb R ds ps) := by
  unfold bank_Open
  repeat with_reducible refine wps_alloc fun _ => ?_
  refine wps_valH (fun _ => device_Rack_Size_val rb R ds ps) ?_
  repeat (first
    | (with_reducible refine wps_val (geo_Right_val _) ?_)
    | (with_reducible refine wps_val (geo_Sectors_val _) ?_)
    | (with_reducible refine wps_val (bank_fits_val _ _) ?_)
    | (refine wps_ld _ (by rfl) ?_)
    | (refine wps_ldG _ _ _ (by rfl) ?_)
    | ((with_reducible apply wps_val); apply val_ite; rotate_left; refine fun (_ : ¬ _) => ?_; rotate_right; refine fun (_ : _ = true) => ?_)
    | (with_reducible exact wps_pure (ent_val rfl)))
  rw [open_tree]
  by_cases h : OpenB R.n R.ns q m = true
  · simp only [h]
    refine wps_ite (fun h => absurd h (by simp)) (fun _ => ?_)
    repeat first | (with_reducible refine wps_alloc fun _ => ?_) | (refine wps_ldG _ _ _ (by rfl) ?_)
    rename_i bb
    exact wps_pure (ent_ex bb (ent_pick (ent_prr rfl ent_drop)))
  · simp only [h]
    refine wps_ite (fun _ => wps_pure (ent_prr rfl ent_drop)) (fun h => absurd h (by simp))
theorem ref06_Open_spec {H : HP} (mb : Nat) (v : RefT) (n ns : Nat) (q m : G3) (hn : v.1 = n) (hns : v.2.1 = ns) : wps g (H * pc mb (refC v)) (ref06_Open (ptr mb) q m) (fun x =>
    if OpenB n ns q m then ex fun bb => pr (x = (ptr bb, 0)) * H * pc mb (refC v) * bnk bb mb q m else pr (x = (none, 10)) * H * pc mb (refC v)) := by
  unfold ref06_Open
  repeat with_reducible refine wps_alloc fun _ => ?_
  refine wps_bindV (u := !OpenB n ns q m) ?_ ?_
  · apply inl_eq
    · repeat (first
        | (with_reducible refine wps_stepV (ref03_Right_val _) ?_)
        | (with_reducible refine wps_stepV (ref03_Sectors_val _) ?_)
        | (with_reducible refine wps_stepV (ref06_Fits_val _ _) ?_)
        | (with_reducible refine wps_nil ?_)
        | (refine wps_ldI _ (by rfl) ?_)
        | (refine wps_ldGI _ _ _ (by rfl) ?_)
        | (with_reducible refine wps_regionH ?_)
        | ((with_reducible apply val_iteL); rotate_left; refine fun (_ : ¬ _) => ?_; rotate_right; refine fun (_ : _ = true) => ?_)
        | (with_reducible exact wps_pure (ent_val rfl)))
    · rw [hn, hns, ← open_tree]
      by_cases h1 : RightB q = true
      · by_cases h2 : (n : Int) = w64 (q.1 + 1)
        · by_cases h3 : (ns : Int) = SectorsI q
          · simp [h1, h2, h3]
          · simp [h1, h2, h3]
        · simp [h1, h2]
      · simp [h1]
  by_cases h : OpenB n ns q m = true
  · simp only [h]
    refine wps_ite (fun h => absurd h (by simp)) (fun _ => ?_)
    repeat first | (with_reducible refine wps_alloc fun _ => ?_) | (refine wps_ldG _ _ _ (by rfl) ?_)
    rename_i bb
    exact wps_pure (ent_ex bb (ent_pick (ent_pick (ent_prr rfl ent_drop))))
  · simp only [h]
    refine wps_ite (fun _ => wps_pure (ent_pick (ent_prr rfl ent_drop))) (fun h => absurd h (by simp))
end Go.Proofs.Ytldmeimebebllaa
namespace Go.Proofs.Ytldmeimebebllaa
open Go.Mo
set_option linter.unusedVariables false
variable {g : Fr}
theorem Small_sect : SectorsI (3, 3, 12) = 41 := by decide
end Go.Proofs.Ytldmeimebebllaa
namespace Go.Proofs.Ytldmeimebebllaa
open Go.Mo
set_option linter.unusedVariables false
variable {g : Fr} {cv : CV}
def DisksOk (cv : CV) : Prop := ∀ (b : Option Addr) (yv : Value) (Q : Value → World → Prop) (w : World), bank_Bank_disks cv b yv (fun _ w' => Q (.tuple #[]) w') w → cv.enter (.func (.func fid_bank_Bank_disks) #[.pointer b] #[]) #[yv] Q w
theorem wps_enter {H : HP} {m : M Unit} {fv yv : Value} {Q : Value → HP} (hcv : ∀ (Q : Value → World → Prop) (w : World), m (fun _ w' => Q (.tuple #[]) w') w → cv.enter fv #[yv] Q w) (h : wps g H m fun _ => Q (.tuple #[])) : wps g H (cv.enter fv #[yv]) Q :=
  fun w a Qf ho ha hq => hcv Qf w (h w a (fun _ w' => Qf (.tuple #[]) w') ho ha fun x w' a' ho' hb => hq _ w' a' ho' hb)
def disksL (q m : G3) : List Int := (List.range q.1.toNat).map (fun i : Nat => (slotV q m i).1) ++ if m.2.2 = 0 then [q.1] else []
theorem disks_iter (hcv : DisksOk cv) (bb rb : Nat) (q m : G3) (hq : q.1 ≤ 16) : Iter cv (.func (.func fid_bank_Bank_disks) #[.pointer (ptr bb)] #[]) (fun x : Int => #[.int .i64 x]) (disksL q m) (bnk bb rb q m) := by
  intro yv I E hstep g
  refine wps_enter (m := bank_Bank_disks cv (ptr bb) yv) (fun Q w h => hcv _ _ _ _ h) ?_
  unfold bank_Bank_disks
  simp only [Addr.add_add, Nat.reduceAdd]
  repeat first | (with_reducible refine wps_nil ?_) | (refine wps_ld _ (by rfl) ?_)
  refine wps_loop (fun i => ex fun n : Nat => pr (i = (n : Int) ∧ (n : Int) ≤ max 0 q.1) * (bnk bb rb q m * I n)) (fun i => (q.1 - i).toNat) ?_ fun i => ?_
  · exact ent_ex 0 (ent_prr ⟨rfl, by omega⟩ (Ent.refl _))
  · refine wps_ex fun n => wps_pr fun ⟨hi, hn⟩ => ?_
    refine wps_ite (fun hc => ?_) (fun hc => ?_)
    · have hc' : i < q.1 := by simpa using hc
      refine wps_valH (fun _ => bank_disk_val bb rb q m i) ?_
      have hx : (disksL q m)[n]? = some (slotV q m i).1 := by
        unfold disksL
        rw [List.getElem?_append_left (by simp; omega), List.getElem?_map, List.getElem?_range (by omega)]
        simp [hi]
      refine wps_bind (wps_yield (hstep n _ hx g)) fun y => ?_
      cases y with
      | true =>
        refine wps_ite (fun h => absurd h (by simp)) (fun _ => wps_pure ?_)
        exact ent_prr (by rw [range_add1 hi (by omega)]; omega) (ent_ex (n + 1) (ent_prr ⟨range_add1 hi (by omega), by omega⟩ (Ent.refl _)))
      | false =>
        refine wps_ite (fun _ => wps_mapR (wps_pure ?_)) (fun h => absurd rfl h)
        exact Ent.starr (ent_orr (Ent.refl _))
    · have hc' : ¬ i < q.1 := by simpa using hc
      have hne : n = q.1.toNat := by omega
      refine wps_mapR ?_
      repeat first | (with_reducible refine wps_nil ?_) | (refine wps_ld _ (by rfl) ?_)
      refine wps_ite (fun h0 => ?_) (fun h0 => ?_)
      · have h0' : m.2.2 = 0 := by simpa using h0
        repeat first | (with_reducible refine wps_nil ?_) | (refine wps_ld _ (by rfl) ?_)
        have hx : (disksL q m)[n]? = some q.1 := by
          unfold disksL
          rw [List.getElem?_append_right (by simp; omega), if_pos h0']
          simp [hne]
        have hlen : (disksL q m).length = n + 1 := by simp [disksL, h0', hne]
        refine wps_bind (wps_yield (hstep n _ hx g)) fun y => wps_pure ?_
        rw [hlen]
        cases y with
        | true => exact Ent.starr (ent_orl (Ent.refl _))
        | false => exact Ent.starr (ent_orr (Ent.refl _))
      · have h0' : ¬ m.2.2 = 0 := by simpa using h0
        have hlen : (disksL q m).length = n := by simp [disksL, h0', hne]
        refine wps_pure ?_
        rw [hlen]
        exact Ent.starr (ent_orl (Ent.refl _))
end Go.Proofs.Ytldmeimebebllaa
namespace Go.Proofs.Ytldmeimebebllaa
open Go.Mo
set_option linter.unusedVariables false
variable {g : Fr}
theorem bv_get {b : List Int} {n : Nat} {v : Int} (h : b[n]? = some v) : (bv b)[n]? = some (Value.int .u8 v) := by simp [bv, h]
theorem ref00_SameBytes_val {H : HP} {a b : Slc} {x y : List Int} (ha : Ent H (byt a x)) (hb : Ent H (byt b y)) (hx : x.length < 4611686018427387904) : Val g H (ref00_SameBytes a b) (decide (x = y)) := by
  unfold ref00_SameBytes
  refine wps_fact (len_of ha) fun hla => wps_fact (len_of hb) fun hlb => ?_
  refine wps_ite (fun hne => ?_) (fun hne => ?_)
  · refine wps_pure (ent_val ?_)
    have hne' : ¬ a.len = b.len := by
      have : ¬ (a.len : Int) = b.len := by simpa using hne
      omega
    have : ¬ x = y := fun e => hne' (by rw [← hla, ← hlb, e])
    simp [this]
  · have heq : a.len = b.len := by
      have : (a.len : Int) = b.len := by simpa using hne
      omega
    refine wps_loop (fun i => ex fun n : Nat => pr (i = (n : Int) ∧ n ≤ x.length ∧ x.take n = y.take n) * H) (fun i => (x.length - i).toNat) ?_ fun i => ?_
    · exact ent_ex 0 (ent_prr ⟨rfl, by omega, by simp⟩ (Ent.refl _))
    · refine wps_ex fun n => wps_pr fun ⟨hi, hn, ht⟩ => ?_
      refine wps_ite (fun hc => ?_) (fun hc => ?_)
      · have hlt : n < x.length := by simp only [decide_eq_true_eq] at hc; omega
        have hlt2 : n < y.length := by omega
        refine wps_regionH ?_
        refine wps_rdI n x[n] ha (Ent.refl _) hi (bv_get (List.getElem?_eq_getElem hlt)) ?_
        refine wps_rdI n y[n] hb (Ent.refl _) hi (bv_get (List.getElem?_eq_getElem hlt2)) ?_
        refine wps_ite (fun hd => ?_) (fun hd => ?_)
        · have hd' : ¬ x[n] = y[n] := by simpa using hd
          refine wps_mapR (wps_pure (ent_prr ?_ (Ent.refl _)))
          have : ¬ x = y := fun e => hd' (by subst e; rfl)
          simp [this]
        · have hd' : x[n] = y[n] := by simpa using hd
          refine wps_pure (ent_prr (by rw [range_add1 hi (by omega)]; omega) (ent_ex (n + 1) (ent_prr ⟨range_add1 hi (by omega), by omega, ?_⟩ (Ent.refl _))))
          rw [List.take_add_one, List.take_add_one, ht, List.getElem?_eq_getElem hlt, List.getElem?_eq_getElem hlt2, hd']
      · have hne : n = x.length := by simp only [decide_eq_true_eq] at hc; omega
        refine wps_mapR (wps_pure (ent_prr ?_ (Ent.refl _)))
        have : x = y := by
          rw [hne, List.take_length] at ht
          rw [ht, List.take_of_length_le (by omega)]
        simp [this]
end Go.Proofs.Ytldmeimebebllaa
namespace Go.Proofs.Ytldmeimebebllaa
open Go.Mo
set_option linter.unusedVariables false
variable {g : Fr} {cv : CV}
theorem rsl_room {z : Nat} {s : Slc} {cs : List Value} : Ent (rsl z s cs) (pr (s.len ≠ 0 → s.len ≤ s.cap)) := fun o ho h0 => by
  rcases ho with ho | ho
  · exact absurd ho.1 h0
  · obtain ⟨ad, all, ho⟩ := ho
    exact (ent_left _ _ o ho).2.2.1
theorem flat_take {γ : Type} {f : γ → List Value} {z : Nat} (hf : ∀ c, (f c).length = z) : ∀ (l : List γ) (n : Nat), (l.flatMap f).take (n * z) = (l.take n).flatMap f
  | [], n => by simp
  | x :: l, 0 => by simp
  | x :: l, n + 1 => by
    rw [List.flatMap_cons, List.take_succ_cons, List.flatMap_cons, List.take_append, hf, Nat.add_mul, Nat.one_mul, Nat.add_sub_cancel, flat_take hf l n, List.take_of_length_le (by rw [hf]; omega)]
abbrev I6 := Int × Int × Int × Int × Int × Int
def I6.seg (x : I6) : Int := x.1
def I6.seq (x : I6) : Int := x.2.1
def I6.count (x : I6) : Int := x.2.2.1
def I6.idx (x : I6) : Int := x.2.2.2.1
def I6.root (x : I6) : Int := x.2.2.2.2.2
theorem encI6_len (x : I6) : (encI6 x).length = 6 := rfl
def wholeB (l : List I6) (c : Int) : Bool := decide (1 ≤ c ∧ c ≤ l.length) && (match l[c.toNat]? with | some x => decide (c ≤ I6.idx x) | none => true) && (List.range c.toNat).all fun i => match l[i]? with | some x => decide (I6.idx x = i) | none => true
theorem scan_whole_val {H : HP} {s : Slc} {l : List I6} {c : Int} (hs : Ent H (rsl 6 s (l.flatMap encI6))) (hl : l.length ≤ 1000000) : Val g H (scan_whole s c) (wholeB l c) := by
  unfold scan_whole
  simp only [Addr.add_add, Nat.reduceAdd]
  refine wps_fact (Ent.trans hs (rsl_len _ _ _)) fun hlen => ?_
  rw [flat_len encI6_len] at hlen
  have hlen : l.length = s.len := by omega
  refine wps_val (v := decide (c < 1 ∨ (s.len : Int) < c)) (wps_ite (fun h => wps_pure (ent_val (by simp at h; simp [h]))) (fun h => wps_pure (ent_val (by simp at h; simp; omega)))) ?_
  refine wps_val (v := decide ((c < 1 ∨ (s.len : Int) < c) ∨ ∃ x, l[c.toNat]? = some x ∧ I6.idx x < c)) ?_ ?_
  · refine wps_ite (fun h => wps_pure (ent_val ?_)) (fun h => ?_)
    · have := of_decide_eq_true h
      rw [decide_eq_true (.inl this)]
    · have h : ¬ (c < 1 ∨ (s.len : Int) < c) := fun e => h (decide_eq_true e)
      refine wps_val (v := decide (∃ x, l[c.toNat]? = some x ∧ I6.idx x < c)) ?_ (wps_pure (ent_val (by simp [h])))
      refine wps_ite (fun h2 => ?_) (fun h2 => wps_pure (ent_val ?_))
      · have h2 := of_decide_eq_true h2
        have hlt : c.toNat < l.length := by omega
        have hget : l[c.toNat]? = some l[c.toNat] := List.getElem?_eq_getElem hlt
        refine wps_rdF (f := 3) c.toNat (I6.idx l[c.toNat]) hs (by omega) (by omega) (by rw [flat_get encI6_len hget (by omega)]; rfl) ?_
        exact wps_pure (ent_val (by simp [hget]))
      · have h2 : ¬ ((s.len : Nat) : Int) > c := fun e => h2 (decide_eq_true e)
        have hnone : l[c.toNat]? = none := List.getElem?_eq_none (by omega)
        simp [hnone]
  refine wps_ite (fun h => wps_pure (ent_val ?_)) (fun h => ?_)
  · have h := of_decide_eq_true h
    unfold wholeB
    rcases h with h | ⟨x, hx, hx2⟩
    · rw [decide_eq_false (by omega)]; rfl
    · rw [hx]
      simp only
      rw [decide_eq_false (show ¬ c ≤ I6.idx x by omega)]
      simp
  have h : ¬ ((c < 1 ∨ (s.len : Int) < c) ∨ ∃ x, l[c.toNat]? = some x ∧ I6.idx x < c) := fun e => h (decide_eq_true e)
  have h1 : 1 ≤ c ∧ c ≤ s.len := by omega
  have h2 : ∀ x, l[c.toNat]? = some x → c ≤ I6.idx x := fun x hx => by
    exact Int.not_lt.1 fun e => h (.inr ⟨x, hx, e⟩)
  refine wps_fact (Ent.trans hs rsl_room) fun hcap => ?_
  have hcap := hcap (by omega)
  have hv : Val g H (sliceM s none (some c) 6) (subS 6 s 0 c.toNat) := sliceM_val rfl (by simp; omega) (Nat.zero_le _) (by omega)
  refine wps_val hv ?_
  have hs2 : Ent H (rsl 6 (subS 6 s 0 c.toNat) ((l.take c.toNat).flatMap encI6)) := Ent.trans hs (Ent.trans (rsl_sub (l := 0) (h := c.toNat) (Nat.zero_le _) (by omega)) (Ent.of_eq (by
    congr 1
    simp only [Nat.zero_mul, List.drop_zero, Nat.sub_zero]
    rw [flat_take encI6_len])))
  have e6 : (subS 6 s 0 c.toNat).len = c.toNat := by simp [subS]
  generalize subS 6 s 0 c.toNat = t at *
  refine wps_loop (fun st => ex fun i : Nat => pr (st = (i : Int) ∧ i ≤ c.toNat ∧ ∀ j x, j < i → l[j]? = some x → I6.idx x = j) * H) (fun st => (c.toNat - st).toNat) (ent_ex 0 (ent_prr ⟨rfl, by omega, fun j x h => by omega⟩ (Ent.refl _))) fun st => ?_
  refine wps_ex fun i => wps_prP fun ⟨hi, hin, hall⟩ => ?_
  rw [emp_star]
  refine wps_ite (fun hc => ?_) (fun hc => ?_)
  · have hlt : i < c.toNat := by simp only [decide_eq_true_eq] at hc; omega
    have hll : i < l.length := by omega
    have hget : l[i]? = some l[i] := List.getElem?_eq_getElem hll
    have hget2 : (l.take c.toNat)[i]? = some l[i] := by rw [List.getElem?_take, if_pos hlt, hget]
    refine wps_rdA i l[i] hs2 hi (by simp) (fun j v hj => ?_) ?_
    · have h5 : j < 6 := by have := (List.getElem?_eq_some_iff.1 hj).1; simpa using this
      rw [flat_get encI6_len hget2 h5]; exact hj
    refine wps_alloc fun x6 => ?_
    refine wps_stA (by simp) (by simp [Value.oneCell']) ?_
    refine wps_ld (I6.idx l[i]) (by rfl) ?_
    refine wps_ite (fun h3 => ?_) (fun h3 => ?_)
    · refine wps_mapR (wps_pure (ent_val ?_))
      have h3 : I6.idx l[i] ≠ i := by rw [hi] at h3; simpa using h3
      unfold wholeB
      have : ((List.range c.toNat).all fun i => match l[i]? with | some x => decide (I6.idx x = i) | none => true) = false := by
        rw [List.all_eq_false]
        refine ⟨i, List.mem_range.2 hlt, ?_⟩
        rw [hget]
        simpa using h3
      rw [this]; simp
    · have h3 : I6.idx l[i] = i := by rw [hi] at h3; simpa using h3
      refine wps_pure (ent_prr (by rw [range_add1 hi (by omega)]; omega) (ent_ex (i + 1) (ent_prr ⟨range_add1 hi (by omega), by omega, fun j x hj hx => ?_⟩ ent_drop)))
      by_cases hji : j = i
      · subst hji; rw [hget] at hx; cases hx; exact h3
      · exact hall j x (by omega) hx
  · have hie : i = c.toNat := by simp only [decide_eq_true_eq] at hc; omega
    refine wps_mapR (wps_pure (ent_val ?_))
    unfold wholeB
    rw [decide_eq_true (show 1 ≤ c ∧ c ≤ l.length by omega)]
    have a1 : (match l[c.toNat]? with | some x => decide (c ≤ I6.idx x) | none => true) = true := by
      split
      · rename_i x hx; exact decide_eq_true (h2 x hx)
      · rfl
    have a2 : ((List.range c.toNat).all fun i => match l[i]? with | some x => decide (I6.idx x = i) | none => true) = true := by
      rw [List.all_eq_true]
      intro j hj
      split
      · rename_i x hx; exact decide_eq_true (hall j x (by rw [hie]; exact List.mem_range.1 hj) hx)
      · rfl
    rw [a1, a2]; rfl
end Go.Proofs.Ytldmeimebebllaa
namespace Go.Proofs.Ytldmeimebebllaa
open Go.Mo
set_option linter.unusedVariables false
variable {g : Fr} {cv : CV}
def lst {κ : Type} : List κ → (κ → HP) → HP
  | [], _ => emp
  | k :: ks, F => F k * lst ks F
theorem lst_congr {κ : Type} {F F' : κ → HP} : ∀ {ks : List κ}, (∀ k ∈ ks, F k = F' k) → lst ks F = lst ks F'
  | [], _ => rfl
  | k :: ks, h => by
    simp only [lst]
    rw [h k (by simp), lst_congr fun k hk => h k (by simp [hk])]
theorem lst_erase {κ : Type} [BEq κ] [LawfulBEq κ] {F : κ → HP} : ∀ {ks : List κ} {k : κ}, k ∈ ks → lst ks F = lst (ks.erase k) F * F k
  | k' :: ks, k, h => by
    rcases Classical.em (k' = k) with hk | hk
    · subst hk
      rw [List.erase_cons_head, lst, star_comm]
    · rw [List.erase_cons_tail (by simpa using hk), lst, lst]
      have : k ∈ ks := by
        rcases List.mem_cons.1 h with h | h
        · exact absurd h.symm hk
        · exact h
      rw [lst_erase this, star_assoc]
def I6.ok (x : I6) : Bool := decide (0 ≤ I6.idx x ∧ I6.idx x ≤ I6.seq x)
def I6.key (x : I6) : Int × Int := (I6.seq x - I6.idx x, I6.count x)
def grp (l : List I6) (k : Int × Int) : List I6 := l.filter fun x => I6.ok x && decide (I6.key x = k)
structure KsOk (l : List I6) (ks : List (Int × Int)) : Prop where
  nodup : ks.Nodup
  mem : ∀ k, k ∈ ks ↔ ∃ x ∈ l, I6.ok x = true ∧ I6.key x = k
  few : ks.length ≤ l.length
theorem grp_out {l : List I6} {x : I6} {k : Int × Int} (h : ¬ (I6.ok x = true ∧ I6.key x = k)) : grp (l ++ [x]) k = grp l k := by
  unfold grp
  rw [List.filter_append]
  have : (I6.ok x && decide (I6.key x = k)) = false := by
    cases ho : I6.ok x with
    | false => rfl
    | true => simpa [ho] using h
  simp [this]
theorem grp_in {l : List I6} {x : I6} (h : I6.ok x = true) : grp (l ++ [x]) (I6.key x) = grp l (I6.key x) ++ [x] := by
  unfold grp
  rw [List.filter_append]
  simp [h]
theorem KsOk.out {l : List I6} {x : I6} {ks : List (Int × Int)} (h : KsOk l ks) (hx : I6.ok x = true → I6.key x ∈ ks) : KsOk (l ++ [x]) ks := ⟨h.nodup, fun k => by
  rw [h.mem]
  constructor
  · rintro ⟨y, hy, h1⟩; exact ⟨y, by simp [hy], h1⟩
  · rintro ⟨y, hy, h1, h2⟩
    rcases List.mem_append.1 hy with hy | hy
    · exact ⟨y, hy, h1, h2⟩
    · have : y = x := by simpa using hy
      subst this
      rw [← h2]
      exact (h.mem _).1 (hx h1), by have := h.few; simp; omega⟩
theorem KsOk.new {l : List I6} {x : I6} {ks : List (Int × Int)} (h : KsOk l ks) (hx : I6.ok x = true) (hn : I6.key x ∉ ks) : KsOk (l ++ [x]) (I6.key x :: ks) := ⟨List.nodup_cons.2 ⟨hn, h.nodup⟩, fun k => by
  rw [List.mem_cons, h.mem]
  constructor
  · rintro (rfl | ⟨y, hy, h1⟩)
    · exact ⟨x, by simp, hx, rfl⟩
    · exact ⟨y, by simp [hy], h1⟩
  · rintro ⟨y, hy, h1, h2⟩
    rcases List.mem_append.1 hy with hy | hy
    · exact .inr ⟨y, hy, h1, h2⟩
    · have : y = x := by simpa using hy
      subst this
      exact .inl h2.symm, by have := h.few; simp; omega⟩
theorem grp_nil {l : List I6} {ks : List (Int × Int)} {k : Int × Int} (h : KsOk l ks) (hk : k ∉ ks) : grp l k = [] := by
  unfold grp
  rw [List.filter_eq_nil_iff]
  intro x hx hc
  simp only [Bool.and_eq_true, decide_eq_true_eq] at hc
  exact hk ((h.mem k).2 ⟨x, hx, hc.1, hc.2⟩)
theorem grp_len (l : List I6) (k : Int × Int) : (grp l k).length ≤ l.length := List.length_filter_le _ _
def mapF (ks : List (Int × Int)) (slf : Int × Int → Slc) : Int × Int → Option Value := fun k => if k ∈ ks then some (vS (slf k)) else none
def upS (slf : Int × Int → Slc) (k : Int × Int) (s : Slc) : Int × Int → Slc := fun j => if j = k then s else slf j
theorem mapF_old {ks : List (Int × Int)} {slf : Int × Int → Slc} {k : Int × Int} {s : Slc} (h : k ∈ ks) : (fun i => if i = k then some (vS s) else if i = k then some (vS (slf k)) else mapF ks slf i) = mapF ks (upS slf k s) := by
  funext i
  unfold mapF upS
  by_cases hi : i = k
  · subst hi; simp [h]
  · simp [hi]
theorem mapF_new {ks : List (Int × Int)} {slf : Int × Int → Slc} {k : Int × Int} {s s0 : Slc} : (fun i => if i = k then some (vS s) else if i = k then some (vS s0) else mapF ks slf i) = mapF (k :: ks) (upS slf k s) := by
  funext i
  unfold mapF upS
  by_cases hi : i = k
  · subst hi; simp
  · simp [hi]
def heldP (l : List I6) (ks : List (Int × Int)) (slf : Int × Int → Slc) : HP := lst ks fun k => own 6 (slf k) ((grp l k).flatMap encI6)
theorem held_out {l : List I6} {x : I6} {ks : List (Int × Int)} {slf : Int × Int → Slc} (h : I6.ok x = false) : heldP (l ++ [x]) ks slf = heldP l ks slf := lst_congr fun k _ => by rw [grp_out (fun e => by rw [h] at e; cases e.1)]
def restP (l : List I6) (ks : List (Int × Int)) (k : Int × Int) (slf : Int × Int → Slc) : HP := lst (ks.erase k) fun k => own 6 (slf k) ((grp l k).flatMap encI6)
theorem held_open {l : List I6} {ks : List (Int × Int)} {k : Int × Int} {slf : Int × Int → Slc} (h : k ∈ ks) : heldP l ks slf = restP l ks k slf * own 6 (slf k) ((grp l k).flatMap encI6) := lst_erase (F := fun k => own 6 (slf k) ((grp l k).flatMap encI6)) h
theorem rest_put {l : List I6} {x : I6} {ks : List (Int × Int)} {slf : Int × Int → Slc} {s : Slc} (hn : ks.Nodup) : restP (l ++ [x]) ks (I6.key x) (upS slf (I6.key x) s) = restP l ks (I6.key x) slf := lst_congr fun k hk => by
  have hne : k ≠ I6.key x := fun e => by subst e; exact (hn.not_mem_erase hk)
  rw [grp_out (fun e => hne e.2.symm)]
  simp [upS, hne]
theorem held_close {l : List I6} {x : I6} {ks : List (Int × Int)} {slf : Int × Int → Slc} {s : Slc} (hx : I6.ok x = true) (hn : ks.Nodup) (h : I6.key x ∈ ks) : heldP (l ++ [x]) ks (upS slf (I6.key x) s) = restP l ks (I6.key x) slf * own 6 s ((grp l (I6.key x)).flatMap encI6 ++ encI6 x) := by
  rw [held_open h, rest_put hn, grp_in hx]
  simp [upS]
theorem held_new {l : List I6} {x : I6} {ks : List (Int × Int)} {slf : Int × Int → Slc} {s : Slc} (hx : I6.ok x = true) (hk : KsOk l ks) (h : I6.key x ∉ ks) : heldP (l ++ [x]) (I6.key x :: ks) (upS slf (I6.key x) s) = heldP l ks slf * own 6 s (encI6 x) := by
  unfold heldP
  rw [lst, star_comm]
  congr 1
  · refine lst_congr fun k hk' => ?_
    have hne : k ≠ I6.key x := fun e => by subst e; exact h hk'
    rw [grp_out (fun e => hne e.2.symm)]
    simp [upS, hne]
  · rw [grp_in hx, grp_nil hk h]
    simp [upS]
end Go.Proofs.Ytldmeimebebllaa
namespace Go.Proofs.Ytldmeimebebllaa
open Go.Mo
set_option linter.unusedVariables false
variable {g : Fr} {cv : CV}
def infosP (s : Slc) (l : List I6) : HP := pr (∀ x ∈ l, I6.seq x < 9223372036854775808) * rsl 6 s (l.flatMap encI6)
instance (s : Slc) (l : List I6) : Pers (infosP s l) := by unfold infosP; infer_instance
theorem infosP_rsl (s : Slc) (l : List I6) : Ent (infosP s l) (rsl 6 s (l.flatMap encI6)) := ent_right _ _
theorem infosP_seq (s : Slc) (l : List I6) : Ent (infosP s l) (pr (∀ x ∈ l, I6.seq x < 9223372036854775808)) := ent_left _ _
theorem infosP_len (s : Slc) (l : List I6) : Ent (infosP s l) (pr (l.length = s.len)) := Ent.trans (infosP_rsl s l) (Ent.trans (rsl_len _ _ _) fun o ho => by
  have : (l.flatMap encI6).length = s.len * 6 := ho
  rw [flat_len encI6_len] at this
  show l.length = s.len
  omega)
theorem ent_pr3 {p : Prop} {A B C F : HP} (hp : p) (h : Ent F (A * B * C)) : Ent F (pr p * A * B * C) := Ent.trans h (Ent.trans (ent_pr hp) (Ent.of_eq (by simp only [star_assoc])))
theorem ent_pr4 {p : Prop} {A B C D F : HP} (hp : p) (h : Ent F (A * B * C * D)) : Ent F (pr p * A * B * C * D) := Ent.trans h (Ent.trans (ent_pr hp) (Ent.of_eq (by simp only [star_assoc])))
theorem groups_first {s : Slc} {l : List I6} (hl : l.length ≤ 100000) {Q : Slc → HP} {K : Nat → M Slc}
    (hK : ∀ m ks slf, KsOk l ks → wps g (infosP s l * pmap m (mapF ks slf) * heldP l ks slf) (K m) Q) :
    wps g (infosP s l) (bindM (newO (.map #[] 0)) fun x13 =>
  loopM (fun (s1 : (Int)) =>
  (if (decide (s1 < ((s.len : Nat) : Int))) = true then
    bindM (idxM s s1 6) fun x18 =>
      bindM (ldA (fun y : (Int × Int × Int × Int × Int × Int) => [(.int .i64 y.1), (.int .i64 y.2.1), (.int .i64 y.2.2.1), (.int .i64 y.2.2.2.1), (.int .i64 y.2.2.2.2.1), (.int .i64 y.2.2.2.2.2)]) x18) fun x19 =>
      bindM (allocM [(.int .i64 0), (.int .i64 0), (.int .i64 0), (.int .i64 0), (.int .i64 0), (.int .i64 0)]) fun x5 =>
      bindM (stA x5 [(.int .i64 x19.1), (.int .i64 x19.2.1), (.int .i64 x19.2.2.1), (.int .i64 x19.2.2.2.1), (.int .i64 x19.2.2.2.2.1), (.int .i64 x19.2.2.2.2.2)]) fun _ =>
      bindM (ld (Value.int .i64) (Addr.add x5 3)) fun x22 =>
      bindM (if (decide (x22 ≥ 0)) = true then
        bindM (ld (Value.int .i64) (Addr.add x5 1)) fun x26 =>
          bindM (ld (Value.int .i64) (Addr.add x5 3)) fun x29 =>
          pureM (decide (x26 ≥ x29))
      else
        pureM false) fun r2 =>
      (if (r2) = true then
      bindM (ld (Value.int .i64) (Addr.add x5 1)) fun x33 =>
        bindM (ld (Value.int .i64) (Addr.add x5 3)) fun x36 =>
        bindM (ld (Value.int .i64) (Addr.add x5 2)) fun x40 =>
        bindM (allocM [(.int .i64 0), (.int .i64 0)]) fun x6 =>
        bindM (stA x6 [(.int .i64 (w64 (x33 - x36))), (.int .i64 x40)]) fun _ =>
        bindM (ldA (fun y : (Int × Int) => [(.int .i64 y.1), (.int .i64 y.2)]) x6) fun x43 =>
        bindM (ldA (fun y : (Int × Int × Int × Int × Int × Int) => [(.int .i64 y.1), (.int .i64 y.2.1), (.int .i64 y.2.2.1), (.int .i64 y.2.2.2.1), (.int .i64 y.2.2.2.2.1), (.int .i64 y.2.2.2.2.2)]) x5) fun x45 =>
        bindM (allocM [(.int .i64 x45.1), (.int .i64 x45.2.1), (.int .i64 x45.2.2.1), (.int .i64 x45.2.2.2.1), (.int .i64 x45.2.2.2.2.1), (.int .i64 x45.2.2.2.2.2)]) fun x46 =>
        bindM (entM vS (⟨none, 0, 0⟩) (some x13) (x43.1, x43.2)) fun x47 =>
        bindM (appendM [(.int .i64 0), (.int .i64 0), (.int .i64 0), (.int .i64 0), (.int .i64 0), (.int .i64 0)] 48 x47.1 ⟨some x46, 1, 1⟩) fun x48 =>
        bindM (entStM (some x13) x47.2 (.slice x48.base x48.len x48.cap)) fun _ =>
        pureM (.inl (w64 (s1 + 1)))
      else
      pureM (.inl (w64 (s1 + 1))))
    else
    mapR (K x13))) 0) Q := by
  refine wps_fact (infosP_len s l) fun hlen => ?_
  refine wps_fact (infosP_seq s l) fun hseq => ?_
  refine wps_newO fun m => ?_
  refine wps_pre (H' := infosP s l * pmap m (mapF [] fun _ => ⟨none, 0, 0⟩)) (Ent.starr (Ent.trans (pmap_new m) (Ent.of_eq (by congr 1)))) ?_
  refine wps_loop (fun st => ex fun i : Nat => ex fun ks : List (Int × Int) => ex fun slf : Int × Int → Slc => pr (st = (i : Int) ∧ i ≤ l.length ∧ KsOk (l.take i) ks ∧ ∀ k, (slf k).len ≤ i) * infosP s l * pmap m (mapF ks slf) * heldP (l.take i) ks slf) (fun st => (l.length - st).toNat) ?_ fun st => ?_
  · refine ent_ex 0 (ent_ex [] (ent_ex (fun _ => ⟨none, 0, 0⟩) ?_))
    have h0 : heldP (l.take 0) [] (fun _ => ⟨none, 0, 0⟩) = emp := rfl
    rw [h0, star_emp]
    refine Ent.trans (ent_pr (p := (0 : Int) = ((0 : Nat) : Int) ∧ 0 ≤ l.length ∧ KsOk (l.take 0) [] ∧ ∀ k : Int × Int, ((fun _ => ⟨none, 0, 0⟩ : Int × Int → Slc) k).len ≤ 0) ⟨rfl, by omega, ⟨List.nodup_nil, fun k => by simp, by simp⟩, fun k => Nat.le_refl _⟩) (Ent.of_eq ?_)
    simp only [star_assoc]
  refine wps_ex fun i => wps_ex fun ks => wps_ex fun slf => wps_prP fun ⟨hi, hin, hks, hsl⟩ => ?_
  refine wps_ite (fun hc => ?_) (fun hc => ?_)
  · have hlt : i < l.length := by simp only [decide_eq_true_eq] at hc; omega
    have hget : l[i]? = some l[i] := List.getElem?_eq_getElem hlt
    have htk : l.take (i + 1) = l.take i ++ [l[i]] := by rw [List.take_add_one, hget]; rfl
    refine wps_rdA i l[i] (Ent.trans (ent_pick1 (A := infosP s l)) (infosP_rsl s l)) hi (by simp) (fun j v hj => ?_) ?_
    · have h5 : j < 6 := by have := (List.getElem?_eq_some_iff.1 hj).1; simpa using this
      rw [flat_get encI6_len hget h5]; exact hj
    have hsq := hseq _ (List.getElem_mem hlt)
    refine wps_alloc fun x5 => ?_
    refine wps_stA (by simp) (by simp [Value.oneCell']) ?_
    refine wps_ld (I6.idx l[i]) (by rfl) ?_
    refine wps_val (v := I6.ok l[i]) ?_ ?_
    · refine wps_ite (fun h => wps_ld (I6.seq l[i]) (by rfl) (wps_ld (I6.idx l[i]) (by rfl) (wps_pure (ent_val ?_)))) (fun h => wps_pure (ent_val ?_))
      · have h : I6.idx l[i] ≥ 0 := of_decide_eq_true h
        simp [I6.ok, h]
      · have h : ¬ I6.idx l[i] ≥ 0 := fun e => h (decide_eq_true e)
        simp [I6.ok]; omega
    refine wps_ite (fun hok => ?_) (fun hok => ?_)
    · have hok2 : 0 ≤ I6.idx l[i] ∧ I6.idx l[i] ≤ I6.seq l[i] := of_decide_eq_true hok
      refine wps_ld (I6.seq l[i]) (by rfl) ?_
      refine wps_ld (I6.idx l[i]) (by rfl) ?_
      refine wps_ld (I6.count l[i]) (by rfl) ?_
      rw [w64_id (by omega) (by omega)]
      refine wps_alloc fun x6 => ?_
      refine wps_stA (by simp) (by simp [Value.oneCell']) ?_
      refine wps_ldA (I6.key l[i]) (by rfl) ?_
      refine wps_ldA l[i] (by rfl) ?_
      refine wps_alloc fun x46 => ?_
      have hrg : w64 (st + 1) = ((i + 1 : Nat) : Int) := range_add1 hi (by omega)
      by_cases hk : I6.key l[i] ∈ ks
      · refine wps_pre (H' := infosP s l * restP (l.take i) ks (I6.key l[i]) slf * own 6 (slf (I6.key l[i])) ((grp (l.take i) (I6.key l[i])).flatMap encI6) * pc x46 (encI6 l[i]) * pmap m (mapF ks slf)) ?_ ?_
        · rw [held_open hk]
          simp only [← star_assoc]
          repeat (first
            | (with_reducible exact ent_drop)
            | (with_reducible refine ent_pick ?_)
            | (refine ent_pickC (by rfl) ?_)
            | (refine ent_pickS (by rfl) ?_)
            | (refine ent_pickM (by rfl) ?_)
            | (refine ent_prx ?_ ?_; rotate_left)
            | (refine ent_prq ?_))
        refine wps_ent (H' := infosP s l * restP (l.take i) ks (I6.key l[i]) slf * own 6 (slf (I6.key l[i])) ((grp (l.take i) (I6.key l[i])).flatMap encI6) * pc x46 (encI6 l[i])) (some (slf (I6.key l[i]))) rfl (by simp [mapF, hk]) fun stp => ?_
        simp only [Option.getD_some]
        refine wps_app 6 (encI6 l[i]) rfl (by decide) (Ent.trans (ent_pick1 (A := pc x46 (encI6 l[i]))) (rsl_pc rfl)) (by simp [encI6, Value.oneCell']) (by have := hsl (I6.key l[i]); show (16 * ((slf (I6.key l[i])).len + 1) + 4096) * 48 ≤ 2 ^ 48; omega) fun s2 hs2 => ?_
        refine wps_pre (H' := infosP s l * restP (l.take i) ks (I6.key l[i]) slf * own 6 s2 ((grp (l.take i) (I6.key l[i])).flatMap encI6 ++ encI6 l[i]) * pmapAt m (fun j => if j = I6.key l[i] then some (vS (slf (I6.key l[i]))) else mapF ks slf j) (I6.key l[i]) stp) ?_ ?_
        · repeat (first
            | (with_reducible exact ent_drop)
            | (with_reducible refine ent_pick ?_)
            | (refine ent_pickC (by rfl) ?_)
            | (refine ent_pickS (by rfl) ?_)
            | (refine ent_pickM (by rfl) ?_)
            | (refine ent_prx ?_ ?_; rotate_left)
            | (refine ent_prq ?_))
        refine wps_entSt rfl ?_
        rw [show Value.slice s2.base s2.len s2.cap = vS s2 from rfl, mapF_old hk]
        refine wps_pure (ent_prr (by rw [hrg]; omega) (ent_ex (i + 1) (ent_ex ks (ent_ex (upS slf (I6.key l[i]) s2) ?_))))
        rw [htk, held_close hok hks.nodup hk]
        simp only [← star_assoc]
        have hs3 : ∀ k, (upS slf (I6.key l[i]) s2 k).len ≤ i + 1 := fun k => by
          unfold upS
          split
          · have := hsl (I6.key l[i]); rw [hs2]; show _ + 1 ≤ _; omega
          · have := hsl k; omega
        refine ent_pr4 ⟨hrg, by omega, hks.out fun _ => hk, hs3⟩ ?_
        repeat (first
          | (with_reducible exact ent_drop)
          | (with_reducible refine ent_pick ?_)
          | (refine ent_pickC (by rfl) ?_)
          | (refine ent_pickS (by rfl) ?_)
          | (refine ent_pickM (by rfl) ?_)
          | (refine ent_prx ?_ ?_; rotate_left)
          | (refine ent_prq ?_))
      · refine wps_pre (H' := infosP s l * heldP (l.take i) ks slf * own 6 ⟨none, 0, 0⟩ [] * pc x46 (encI6 l[i]) * pmap m (mapF ks slf)) ?_ ?_
        · refine Ent.trans (ent_own0 (z := 6) (Ent.refl _)) ?_
          repeat (first
            | (with_reducible exact ent_drop)
            | (with_reducible refine ent_pick ?_)
            | (refine ent_pickC (by rfl) ?_)
            | (refine ent_pickS (by rfl) ?_)
            | (refine ent_pickM (by rfl) ?_)
            | (refine ent_prx ?_ ?_; rotate_left)
            | (refine ent_prq ?_))
        refine wps_ent (H' := infosP s l * heldP (l.take i) ks slf * own 6 ⟨none, 0, 0⟩ [] * pc x46 (encI6 l[i])) none rfl (by simp [mapF, hk]) fun stp => ?_
        simp only [Option.getD_none]
        refine wps_app 6 (encI6 l[i]) rfl (by decide) (Ent.trans (ent_pick1 (A := pc x46 (encI6 l[i]))) (rsl_pc rfl)) (by simp [encI6, Value.oneCell']) (show (16 * (0 + 1) + 4096) * 48 ≤ 2 ^ 48 by decide) fun s2 hs2 => ?_
        refine wps_pre (H' := infosP s l * heldP (l.take i) ks slf * own 6 s2 ([] ++ encI6 l[i]) * pmapAt m (fun j => if j = I6.key l[i] then some (vS ⟨none, 0, 0⟩) else mapF ks slf j) (I6.key l[i]) stp) ?_ ?_
        · repeat (first
            | (with_reducible exact ent_drop)
            | (with_reducible refine ent_pick ?_)
            | (refine ent_pickC (by rfl) ?_)
            | (refine ent_pickS (by rfl) ?_)
            | (refine ent_pickM (by rfl) ?_)
            | (refine ent_prx ?_ ?_; rotate_left)
            | (refine ent_prq ?_))
        refine wps_entSt rfl ?_
        rw [show Value.slice s2.base s2.len s2.cap = vS s2 from rfl, mapF_new, List.nil_append]
        refine wps_pure (ent_prr (by rw [hrg]; omega) (ent_ex (i + 1) (ent_ex (I6.key l[i] :: ks) (ent_ex (upS slf (I6.key l[i]) s2) ?_))))
        rw [htk, held_new hok hks hk]
        simp only [← star_assoc]
        have hs3 : ∀ k, (upS slf (I6.key l[i]) s2 k).len ≤ i + 1 := fun k => by
          unfold upS
          split
          · rw [hs2]; show 0 + 1 ≤ _; omega
          · have := hsl k; omega
        refine ent_pr4 ⟨hrg, by omega, hks.new hok hk, hs3⟩ ?_
        repeat (first
          | (with_reducible exact ent_drop)
          | (with_reducible refine ent_pick ?_)
          | (refine ent_pickC (by rfl) ?_)
          | (refine ent_pickS (by rfl) ?_)
          | (refine ent_pickM (by rfl) ?_)
          | (refine ent_prx ?_ ?_; rotate_left)
          | (refine ent_prq ?_))
    · have hrg : w64 (st + 1) = ((i + 1 : Nat) : Int) := range_add1 hi (by omega)
      have hok : I6.ok l[i] = false := by simpa using hok
      refine wps_pure (ent_prr (by rw [hrg]; omega) (ent_ex (i + 1) (ent_ex ks (ent_ex slf ?_))))
      rw [htk, held_out hok]
      refine ent_pr3 ⟨hrg, by omega, hks.out (fun h => by rw [hok] at h; cases h), fun k => by have := hsl k; omega⟩ ?_
      repeat (first
        | (with_reducible exact ent_drop)
        | (with_reducible refine ent_pick ?_)
        | (refine ent_pickC (by rfl) ?_)
        | (refine ent_pickS (by rfl) ?_)
        | (refine ent_pickM (by rfl) ?_)
        | (refine ent_prx ?_ ?_; rotate_left)
        | (refine ent_prq ?_))
  · have hie : i = l.length := by simp only [decide_eq_true_eq] at hc; omega
    have htl : l.take i = l := by rw [hie, List.take_length]
    rw [htl] at hks ⊢
    refine wps_mapR (wps_pre ?_ (hK m ks slf hks))
    repeat (first
      | (with_reducible exact ent_drop)
      | (with_reducible refine ent_pick ?_)
      | (refine ent_pickC (by rfl) ?_)
      | (refine ent_pickS (by rfl) ?_)
      | (refine ent_pickM (by rfl) ?_)
      | (refine ent_prx ?_ ?_; rotate_left)
      | (refine ent_prq ?_))
end Go.Proofs.Ytldmeimebebllaa
namespace Go.Proofs.Ytldmeimebebllaa
open Go.Mo
set_option linter.unusedVariables false
variable {g : Fr} {cv : CV}
def cnt (l : List I6) (i : Nat) : Nat := l.countP fun x => decide (I6.idx x = (i : Int))
theorem cnt_perm {l l' : List I6} (h : l.Perm l') (i : Nat) : cnt l i = cnt l' i := h.countP_eq _
theorem cnt_two {l : List I6} {p q i : Nat} {x y : I6} (hp : l[p]? = some x) (hq : l[q]? = some y) (hlt : p < q) (hx : I6.idx x = i) (hy : I6.idx y = i) : 2 ≤ cnt l i := by
  have h1 : 0 < cnt (l.take q) i := List.countP_pos_iff.2 ⟨x, List.mem_of_getElem? (i := p) (by rw [List.getElem?_take, if_pos hlt]; exact hp), by simpa using hx⟩
  have h2 : 0 < cnt (l.drop q) i := List.countP_pos_iff.2 ⟨y, List.mem_of_getElem? (i := 0) (by rw [List.getElem?_drop]; simpa using hq), by simpa using hy⟩
  have h3 : cnt l i = cnt (l.take q) i + cnt (l.drop q) i := by
    unfold cnt
    rw [← List.countP_append, List.take_append_drop]
  omega
def wholeC (l : List I6) (c : Int) : Bool := decide (1 ≤ c) && (List.range c.toNat).all fun i => cnt l i == 1
theorem sorted_le {l : List I6} (h : SortedF cf_scan_Groups_c1 l) {p q : Nat} {x y : I6} (hp : l[p]? = some x) (hq : l[q]? = some y) (hlt : p < q) : I6.idx x ≤ I6.idx y := by
  unfold SortedF at h
  rw [List.pairwise_iff_getElem] at h
  obtain ⟨h1, rfl⟩ := List.getElem?_eq_some_iff.1 hp
  obtain ⟨h2, rfl⟩ := List.getElem?_eq_some_iff.1 hq
  have := h p q h1 h2 hlt
  rw [lt_c1] at this
  exact Int.not_lt.1 (of_decide_eq_false this)
theorem sorted_first {l : List I6} (h : SortedF cf_scan_Groups_c1 l) (h0 : ∀ x ∈ l, 0 ≤ I6.idx x) : ∀ c : Nat, (∀ i, i < c → cnt l i = 1) → c ≤ l.length ∧ (∀ j x, j < c → l[j]? = some x → I6.idx x = j) ∧ ∀ x, l[c]? = some x → (c : Int) ≤ I6.idx x
  | 0, _ => ⟨Nat.zero_le _, fun j x hj => by omega, fun x hx => h0 x (List.mem_of_getElem? hx)⟩
  | c + 1, hc => by
    obtain ⟨h1, h2, h3⟩ := sorted_first h h0 c fun i hi => hc i (by omega)
    have hcc := hc c (by omega)
    obtain ⟨y, hy, hyc⟩ := List.countP_pos_iff.1 (show 0 < cnt l c by omega)
    have hyc : I6.idx y = c := of_decide_eq_true hyc
    obtain ⟨p, hp⟩ := List.mem_iff_getElem?.1 hy
    have hpc : c ≤ p := by
      apply Classical.byContradiction
      intro hn
      have := h2 p y (by omega) hp
      omega
    have hpl := (List.getElem?_eq_some_iff.1 hp).1
    have hcl : c < l.length := by omega
    have hgc : l[c]? = some l[c] := List.getElem?_eq_getElem hcl
    have hidx : I6.idx l[c] = c := by
      have a := h3 _ hgc
      rcases Nat.lt_or_ge c p with hlt | hge
      · have := sorted_le h hgc hp hlt; omega
      · have : p = c := by omega
        subst this
        rw [hp] at hgc
        rw [← Option.some.inj hgc]; exact hyc
    refine ⟨by omega, fun j x hj hx => ?_, fun x hx => ?_⟩
    · by_cases hjc : j = c
      · subst hjc; rw [hgc] at hx; rw [← Option.some.inj hx]; exact hidx
      · exact h2 j x (by omega) hx
    · have a := sorted_le h hgc hx (by omega)
      have b : I6.idx x ≠ (c : Int) := fun e => by
        have := cnt_two hgc hx (Nat.lt_succ_self c) hidx e
        omega
      omega
theorem whole_iff {l l' : List I6} (hp : l'.Perm l) (h : SortedF cf_scan_Groups_c1 l') (h0 : ∀ x ∈ l, 0 ≤ I6.idx x) (c : Int) : wholeB l' c = wholeC l c := by
  rw [Bool.eq_iff_iff]
  unfold wholeB wholeC
  simp only [Bool.and_eq_true, decide_eq_true_eq, List.all_eq_true, List.mem_range, beq_iff_eq]
  constructor
  · rintro ⟨⟨⟨h1, h2⟩, h3⟩, h4⟩
    refine ⟨h1, fun i hi => ?_⟩
    rw [← cnt_perm hp]
    have hil : i < l'.length := by omega
    have hgi : l'[i]? = some l'[i] := List.getElem?_eq_getElem hil
    have hx : I6.idx l'[i] = i := by have := h4 i hi; rw [hgi] at this; exact of_decide_eq_true this
    have hpos : 0 < cnt l' i := List.countP_pos_iff.2 ⟨l'[i], List.getElem_mem hil, by simpa using hx⟩
    apply Classical.byContradiction
    intro hne
    have h2c : 2 ≤ cnt l' i := by omega
    -- another place
    have hsplit : cnt l' i = cnt (l'.take i) i + (cnt [l'[i]] i + cnt (l'.drop (i + 1)) i) := by
      unfold cnt
      rw [← List.countP_append, ← List.countP_append]
      congr 1
      rw [List.singleton_append, ← List.drop_eq_getElem_cons hil, List.take_append_drop]
    have hone : cnt [l'[i]] i = 1 := by simp [cnt, hx]
    rcases Nat.eq_zero_or_pos (cnt (l'.take i) i) with h5 | h5
    · obtain ⟨y, hy, hyi⟩ := List.countP_pos_iff.1 (show 0 < cnt (l'.drop (i + 1)) i by omega)
      have hyi : I6.idx y = i := of_decide_eq_true hyi
      obtain ⟨q, hq⟩ := List.mem_iff_getElem?.1 hy
      rw [List.getElem?_drop] at hq
      by_cases hqc : i + 1 + q < c.toNat
      · have := h4 _ hqc; rw [hq] at this; have := of_decide_eq_true this; omega
      · have hlc : c.toNat < l'.length ∨ c.toNat = l'.length := by omega
        have hql := (List.getElem?_eq_some_iff.1 hq).1
        have hcl : c.toNat < l'.length := by omega
        have hgc : l'[c.toNat]? = some l'[c.toNat] := List.getElem?_eq_getElem hcl
        rw [hgc] at h3
        have h3 : c ≤ I6.idx l'[c.toNat] := of_decide_eq_true h3
        rcases Nat.lt_or_ge c.toNat (i + 1 + q) with hlt | hge
        · have := sorted_le h hgc hq hlt; omega
        · have he : i + 1 + q = c.toNat := by omega
          rw [he, hgc] at hq
          have := Option.some.inj hq
          subst this
          omega
    · obtain ⟨y, hy, hyi⟩ := List.countP_pos_iff.1 h5
      have hyi : I6.idx y = i := of_decide_eq_true hyi
      obtain ⟨q, hq⟩ := List.mem_iff_getElem?.1 hy
      rw [List.getElem?_take] at hq
      split at hq
      · rename_i hqi
        have := h4 q (by omega); rw [hq] at this; have := of_decide_eq_true this; omega
      · cases hq
  · rintro ⟨h1, h2⟩
    obtain ⟨a1, a2, a3⟩ := sorted_first h (fun x hx => h0 x (hp.mem_iff.1 hx)) c.toNat fun i hi => by rw [cnt_perm hp]; exact h2 i hi
    refine ⟨⟨⟨h1, by omega⟩, ?_⟩, fun i hi => ?_⟩
    · split
      · rename_i x hx; have := a3 x hx; exact decide_eq_true (by omega)
      · rfl
    · split
      · rename_i x hx; exact decide_eq_true (a2 i x hi hx)
      · rfl
end Go.Proofs.Ytldmeimebebllaa
namespace Go.Proofs.Ytldmeimebebllaa
open Go.Mo
set_option linter.unusedVariables false
variable {g : Fr} {cv : CV}
def everyL (s : Int) (b : List Int) : List Int → Rk → Int → Rk × Int
  | [], R, wr => (R, wr)
  | d :: ds, R, wr => if R.gate d s b.length = 12 then (R.write d s b, 12) else everyL s b ds (R.write d s b) (if R.gate d s b.length = 11 then 11 else wr)
theorem drop_cons {xs : List Int} {i : Nat} {x : Int} (h : xs[i]? = some x) : xs.drop i = x :: xs.drop (i + 1) := by
  obtain ⟨hlt, he⟩ := List.getElem?_eq_some_iff.1 h
  rw [List.drop_eq_getElem_cons hlt, he]
end Go.Proofs.Ytldmeimebebllaa
namespace Go.Proofs.Ytldmeimebebllaa
open Go.Mo
set_option linter.unusedVariables false
variable {g : Fr} {cv : CV}
def allL (s : Int) (xs : List Int) (R : Rk) : List (List Int) := (xs.filter fun d => R.rdErr d s == 0).map fun d => R.rd d s
def rows (t : Slc) (l : List (List Int)) : HP := ex fun sl : List Slc => pr (sl.length = l.length ∧ t.len = l.length) * seqp sl (fun i => l.getD i []) * own 1 t (sl.map vS)
theorem seqp_ext {sl : List Slc} {f f' : Nat → List Int} (h : ∀ i, i < sl.length → f i = f' i) : Ent (seqp sl f) (seqp sl f') := fun o ho k s hk => by
  have hlt := (List.getElem?_eq_some_iff.1 hk).1
  rw [← h k hlt]
  exact ho k s hk
theorem seqp_snocL {sl : List Slc} {l : List (List Int)} {s : Slc} {b : List Int} (hl : sl.length = l.length) : Ent (seqp sl (fun i => l.getD i []) * byt s b) (seqp (sl ++ [s]) (fun i => (l ++ [b]).getD i [])) := by
  refine seqp_snoc (Ent.trans (ent_left _ _) (seqp_ext fun i hi => ?_)) (Ent.trans (ent_right _ _) (Ent.of_eq ?_))
  · simp [List.getD_eq_getElem?_getD, List.getElem?_append_left (show i < l.length by omega)]
  · simp [List.getD_eq_getElem?_getD, hl]
theorem rows_snoc {A : HP} {t : Slc} {sl : List Slc} {l : List (List Int)} {s : Slc} {b : List Int} (hl : sl.length = l.length) (ht : t.len = l.length + 1) :
    Ent (seqp sl (fun i => l.getD i []) * byt s b * own 1 t ((sl ++ [s]).map vS)) (rows t (l ++ [b])) := by
  refine ent_ex (sl ++ [s]) (ent_pick ?_)
  refine ent_prr ⟨by simp [hl], by simp [ht]⟩ ?_
  refine seqp_snoc (Ent.trans (ent_left _ _) (seqp_ext fun i hi => ?_)) (Ent.trans (ent_right _ _) (Ent.of_eq ?_))
  · simp [List.getD_eq_getElem?_getD, List.getElem?_append_left (show i < l.length by omega)]
  · simp [List.getD_eq_getElem?_getD, hl]
theorem disksL_len (q m : G3) (hq : q.1 ≤ 16) : (disksL q m).length ≤ 17 := by
  unfold disksL
  rw [List.length_append, List.length_map, List.length_range]
  split <;> simp <;> omega
theorem bank_All_spec (hcv : DisksOk cv) (bb rb : Nat) (q m : G3) (hq : q.1 ≤ 16) (R : Rk) (ds : Slc) (ps : List Nat) (s : Int) :
    wps g (bnk bb rb q m * rackP rb R ds ps) (bank_Bank_All cv (ptr bb) s) (fun t => bnk bb rb q m * rackP rb R ds ps * rows t (allL s (disksL q m) R)) := by
  unfold bank_Bank_All
  repeat first | (with_reducible refine wps_alloc fun _ => ?_) | (refine wps_ld _ (by rfl) ?_)
  rename_i x2 x3 x5
  refine wps_rangeF (F := emp)
    (fun i => ex fun t : Slc => ex fun sl : List Slc => pr (sl.length = (allL s ((disksL q m).take i) R).length ∧ t.len = sl.length) * seqp sl (fun j => (allL s ((disksL q m).take i) R).getD j []) * own 1 t (sl.map vS) * rackP rb R ds ps * pc x2 [.pointer (ptr bb)] * pc x3 [.int .i64 s] * pc x5 [vS t])
    (fun _ => pr False)
    (fun i d t' => pr (t' = d) * (bnk bb rb q m * ex fun t : Slc => ex fun sl : List Slc => pr (sl.length = (allL s ((disksL q m).take i) R).length ∧ t.len = sl.length) * seqp sl (fun j => (allL s ((disksL q m).take i) R).getD j []) * own 1 t (sl.map vS) * rackP rb R ds ps * pc x2 [.pointer (ptr bb)] * pc x3 [.int .i64 s] * pc x5 [vS t]))
    (disks_iter hcv bb rb q m hq) ?_ ?_ ?_ ?_ ?_ ?_
  · rw [emp_star]
    refine Ent.trans ?_ (Ent.starr (ent_ex nilS (ent_ex [] (Ent.refl _))))
    simp only [← star_assoc]
    refine ent_pickC (by rfl) (ent_pickC (by rfl) (ent_pickC (by rfl) (ent_pick (ent_own0 (ent_pers ?_ (seqp_nil _ _))))))
    exact ent_prx (by simp [allL, nilS]) ent_drop
  · intro i d hd g
    exact wps_pure (ent_prr rfl (Ent.refl _))
  · intro i d hd t' g
    refine wps_pr fun ht => ?_
    subst ht
    refine wps_exP fun t => ?_
    refine wps_exP fun sl => ?_
    simp only [← star_assoc]
    refine wps_prP fun ⟨hsl, htl⟩ => ?_
    have htake : (disksL q m).take (i + 1) = (disksL q m).take i ++ [t'] := by rw [List.take_add_one, hd]; rfl
    have hle : sl.length ≤ 17 := by
      rw [hsl]
      simp only [allL, List.length_map]
      have h1 := List.length_filter_le (fun d => R.rdErr d s == 0) ((disksL q m).take i)
      have h2 := disksL_len q m hq
      rw [List.length_take] at h1
      omega
    refine wps_region (bnk bb rb q m * pc x2 [.pointer (ptr bb)] * pc x3 [.int .i64 s]) (ent_pick (ent_pick ent_drop)) ?_
    repeat first | (with_reducible refine wps_nil ?_) | (refine wps_ldI _ (by rfl) ?_)
    refine wps_stepC (F := bnk bb rb q m * pc x2 [.pointer (ptr bb)] * pc x3 [.int .i64 s] * seqp sl (fun j => (allL s ((disksL q m).take i) R).getD j []) * own 1 t (sl.map vS) * pc x5 [vS t]) (A := rackP rb R ds ps) (fun _ => device_Rack_Read_spec rb R ds ps t' s) ?_ ent_drop fun e => ?_
    · exact ent_pick (ent_pick (ent_pick (ent_pick (ent_pick (ent_pick ent_drop)))))
    · simp only [← star_assoc]
      refine wps_prP fun he => ?_
      refine wps_ite (fun h0 => ?_) (fun h0 => ?_)
      · have h0' : R.rdErr t' s = 0 := by rw [← he]; simpa using h0
        have hall : allL s ((disksL q m).take (i + 1)) R = allL s ((disksL q m).take i) R ++ [R.rd t' s] := by
          rw [htake]; simp [allL, h0']
        repeat first | (with_reducible refine wps_alloc fun _ => ?_) | (refine wps_ld _ (by rfl) ?_)
        refine wps_app 1 [vS e.1] rfl (by decide) (rsl_pc rfl) (by simp [Value.oneCell', vS]) (by (try dsimp only); omega) fun t2 ht2 => ?_
        repeat refine wps_st (by simp) ?_
        refine wps_pure ?_
        rw [hall]
        refine Ent.trans ?_ (Ent.starr (ent_ex t2 (ent_ex (sl ++ [e.1]) (Ent.refl _))))
        simp only [← star_assoc]
        refine ent_pickC (by rfl) (ent_pick (ent_pick (ent_pick (ent_pickS (by simp) ?_))))
        refine ent_swap (A := own 1 e.1 (bv (R.rd t' s))) (B := byt e.1 (R.rd t' s)) (own_rsl _ _ _) ?_
        refine ent_join (A := seqp sl fun j => (allL s ((disksL q m).take i) R).getD j []) (B := byt e.1 (R.rd t' s)) (seqp_snocL hsl) ?_
        exact ent_prx ⟨by simp [hsl], by simp [ht2, htl]⟩ ent_drop
      · have h0' : ¬ R.rdErr t' s = 0 := by rw [← he]; simpa using h0
        have hall : allL s ((disksL q m).take (i + 1)) R = allL s ((disksL q m).take i) R := by
          rw [htake]; simp [allL, h0']
        refine wps_pure ?_
        rw [hall]
        refine Ent.trans ?_ (Ent.starr (ent_ex t (ent_ex sl (Ent.refl _))))
        simp only [← star_assoc]
        exact ent_pick (ent_pick (ent_pick (ent_pick (ent_pick (ent_pick (ent_prx ⟨hsl, htl⟩ ent_drop))))))
  · intro D
    refine wps_exP fun t => wps_exP fun sl => ?_
    simp only [← star_assoc]
    refine wps_prP fun ⟨hsl, htl⟩ => ?_
    rw [List.take_length]
    rw [List.take_length] at hsl
    repeat refine wps_ld _ (by rfl) ?_
    refine wps_take (wps_pure ?_)
    refine ent_exr sl ?_
    simp only [← star_assoc]
    exact ent_pick (ent_pick (ent_prx ⟨hsl, by rw [htl, hsl]⟩ (ent_pick ent_drop)))
  · intro D
    exact wps_false (fun o ho => by
      have := ent_right _ _ o (ent_left _ _ o ho)
      exact ent_right _ _ o this)
  · intro D id
    exact wps_false (fun o ho => by
      have := ent_right _ _ o (ent_left _ _ o ho)
      exact ent_right _ _ o this)
end Go.Proofs.Ytldmeimebebllaa
namespace Go.Proofs.Ytldmeimebebllaa
open Go.Mo
set_option linter.unusedVariables false
structure Calm (R : Rk) : Prop where
  off : R.off = false
  count : R.count = -1
  failed : ∀ j, (R.dk j).failed = false
  counts : ∀ j, (R.dk j).count = -1
theorem w64m2 : w64 (-1 - 1) = -2 := w64_id (by omega) (by omega)
theorem Calm.tick {R : Rk} (h : Calm R) : R.ticked = R := by
  obtain ⟨n, ns, dk, count, off⟩ := R
  obtain ⟨h1, h2, h3, h4⟩ := h
  simp only at h1 h2 h3 h4
  subst h1 h2
  have hm : maxI (w64 (-1 - 1)) (-1) = -1 := by rw [w64m2]; rfl
  have hdk : (fun j => (dk j).tick) = dk := by
    funext j
    have a := h3 j
    have b := h4 j
    cases hd : dk j with
    | mk l c f k =>
      rw [hd] at a b
      simp only at a b
      subst a b
      simp only [Dk.tick, hm]
      rfl
  simp only [Rk.ticked, hm, hdk]
  rfl
theorem Calm.new (n s : Nat) : Calm (Rk.new n s) := ⟨rfl, rfl, fun _ => rfl, fun _ => rfl⟩
theorem Calm.gate {R : Rk} (h : Calm R) {k s : Int} (hk : 0 ≤ k ∧ k < R.n) (hs : 0 ≤ s ∧ s < R.ns) : R.gate k s 64 = 0 := by
  unfold Rk.gate
  have hr : ¬ (k < 0 ∨ k ≥ R.n ∨ s < 0 ∨ s ≥ R.ns) := by omega
  rw [if_neg (by simp [h.off]), if_neg hr, if_neg (by omega), if_neg (by rw [h.count]; omega), h.tick, if_neg (by simp [h.failed])]
theorem Calm.put {R : Rk} (h : Calm R) (k s : Int) (b : List Int) : Calm (R.put k s b) := by
  refine ⟨h.off, h.count, fun j => ?_, fun j => ?_⟩
  · simp only [Rk.put]; split
    · exact h.failed j
    · exact h.failed j
  · simp only [Rk.put]; split
    · exact h.counts j
    · exact h.counts j
theorem Calm.write {R : Rk} (h : Calm R) {k s : Int} {b : List Int} (hk : 0 ≤ k ∧ k < R.n) (hs : 0 ≤ s ∧ s < R.ns) (hb : b.length = 64) : R.gate k s b.length = 0 ∧ R.write k s b = R.put k s b := by
  have hg : R.gate k s b.length = 0 := by rw [hb]; exact h.gate hk hs
  obtain ⟨_, _, _, _, hgd⟩ := gate_ok hg
  exact ⟨hg, by rw [Rk.write, if_pos hg, hgd, h.tick]⟩
theorem Calm.rdErr {R : Rk} (h : Calm R) {k s : Int} (hk : 0 ≤ k ∧ k < R.n) (hs : 0 ≤ s ∧ s < R.ns) : R.rdErr k s = 0 := by
  unfold Rk.rdErr
  have hr : ¬ (k < 0 ∨ k ≥ R.n ∨ s < 0 ∨ s ≥ R.ns) := by omega
  rw [if_neg (by simp [h.off]), if_neg hr, if_neg (by simp [h.failed])]
theorem Calm.rd {R : Rk} (h : Calm R) {k s : Int} (hk : 0 ≤ k ∧ k < R.n) (hs : 0 ≤ s ∧ s < R.ns) : R.rd k s = (R.dk k.toNat).sec s := by
  rw [Rk.rd, if_pos (h.rdErr hk hs)]
theorem put_sec (R : Rk) (k s : Int) (b : List Int) (j : Nat) (i : Int) : ((R.put k s b).dk j).sec i = if j = k.toNat ∧ i = s then b else (R.dk j).sec i := by
  simp only [Rk.put]
  by_cases hj : j = k.toNat
  · by_cases hi : i = s
    · simp [hj, hi, Dk.sec]
    · simp [hj, hi, Dk.sec]
  · simp [hj]
theorem Calm.failedB {R : Rk} (h : Calm R) (k : Int) : R.failedB k = false := by
  unfold Rk.failedB; split
  · exact h.failed _
  · rfl
theorem Calm.every {s : Int} {b : List Int} : ∀ {xs : List Int} {R : Rk}, Calm R → (∀ d ∈ xs, 0 ≤ d ∧ d < R.n) → 0 ≤ s ∧ s < R.ns → b.length = 64 → everyL s b xs R 0 = (xs.foldl (fun R d => R.put d s b) R, 0)
  | [], R, _, _, _, _ => rfl
  | d :: xs, R, h, hx, hs, hb => by
    have hw := h.write (hx d (by simp)) hs hb
    simp only [everyL, hw.1, hw.2]
    rw [if_neg (by omega), if_neg (by omega)]
    exact Calm.every (h.put d s b) (fun d' hd' => hx d' (by simp [hd'])) hs hb
theorem Calm.all_len {R : Rk} (h : Calm R) {s : Int} {xs : List Int} (hx : ∀ d ∈ xs, 0 ≤ d ∧ d < R.n) (hs : 0 ≤ s ∧ s < R.ns) : (allL s xs R).length = xs.length := by
  simp only [allL, List.length_map]
  rw [List.filter_eq_self.2 fun d hd => by simp [h.rdErr (hx d hd) hs]]
end Go.Proofs.Ytldmeimebebllaa

namespace Go.Proofs.Ytldmeimebebllaa
open Go.Mo
set_option linter.unusedVariables false
variable {g : Fr}
def Dk.flushed (D : Dk) (p : Int → Bool) : Dk := { D with lasts := fun k => match D.cached k with | some b => if p k then b else D.lasts k | none => D.lasts k }
def Dk.clean (D : Dk) : Dk := { D with cached := fun _ => none }
theorem Dk.ok_flushed {D : Dk} {ns : Nat} (h : D.ok ns) (p : Int → Bool) : (D.flushed p).ok ns := by
  refine ⟨fun k hk => ?_, h.2⟩
  simp only [Dk.flushed]
  cases hc : D.cached k with
  | none => exact h.1 k hk
  | some b =>
    simp only
    split
    · exact (h.2 k b hc).1
    · exact h.1 k hk
def Rk.setD (R : Rk) (j : Nat) (D : Dk) : Rk := { R with dk := fun i => if i = j then D else R.dk i }
def Rk.flush (R : Rk) (k : Int) : Rk := if R.gate k 0 64 = 0 then (R.gated k 0 64).setD k.toNat (((R.gated k 0 64).dk k.toNat).flushed fun _ => true).clean else R.gated k 0 64
theorem rackP_set {rb : Nat} {R : Rk} {ds : Slc} {ps : List Nat} {j : Nat} (D : Dk) (hj : j < R.n) :
    pr (ps.length = R.n ∧ ds.len = R.n ∧ R.n ≤ 17 ∧ R.ns ≤ 4096) * bst R.n (hole j (rackF R.ns R.dk ps)) * own 1 ds (ps.map pv) * pc rb [vS ds, .int .i64 R.ns, .int .i64 R.count, .bool R.off] * dskAt R.ns (ps.getD j 0) D = rackP rb (R.setD j D) ds ps := by
  rw [rackP_focus rb (R.setD j D) ds ps (j := j) hj]
  have hho : bst R.n (hole j (rackF R.ns R.dk ps)) = bst R.n (hole j (rackF R.ns (R.setD j D).dk ps)) := hole_congr fun i _ hne => by
    simp only [rackF, Rk.setD, if_neg hne]
  rw [hho]
  simp only [Rk.setD, if_true]
theorem device_Rack_Flush_spec (rb : Nat) (R : Rk) (ds : Slc) (ps : List Nat) (k : Int) :
    wps g (rackP rb R ds ps) (device_Rack_Flush (ptr rb) k) (fun e => pr (e = R.gate k 0 64) * rackP rb (R.flush k) ds ps) := by
  unfold device_Rack_Flush
  refine wps_bind (device_Rack_counted_spec rb R ds ps k 0 64) fun x => wps_pr fun hx => ?_
  subst hx
  by_cases h0 : R.gate k 0 64 = 0
  · obtain ⟨ho, hr, hs, hc, hgd⟩ := gate_ok h0
    refine wps_ite (fun _ => ?_) (fun h => absurd (by simp [gateV, h0]) h)
    have hlt : k.toNat < (R.gated k 0 64).n := by rw [hgd]; simp [Rk.ticked, hc]; omega
    have hfl : R.flush k = (R.gated k 0 64).setD k.toNat (((R.gated k 0 64).dk k.toNat).flushed fun _ => true).clean := by rw [Rk.flush, if_pos h0]
    have hgv : (gateV R ps k 0 64).1 = ptr (ps.getD k.toNat 0) := by simp [gateV, h0]
    have hgv2 : (gateV R ps k 0 64).2 = R.gate k 0 64 := rfl
    rw [hfl, hgv, hgv2, ← rackP_set _ hlt, rackP_focus rb (R.gated k 0 64) ds ps hlt]
    generalize R.gated k 0 64 = R1 at *
    generalize R1.dk k.toNat = D at *
    refine wps_tail (F := pr (ps.length = R1.n ∧ ds.len = R1.n ∧ R1.n ≤ 17 ∧ R1.ns ≤ 4096) * bst R1.n (hole k.toNat (rackF R1.ns R1.dk ps)) * own 1 ds (ps.map pv) * pc rb [vS ds, .int .i64 R1.ns, .int .i64 R1.count, .bool R1.off])
      (A := dskAt R1.ns (ps.getD k.toNat 0) D) (Q' := fun e => pr (e = R.gate k 0 64) * dskAt R1.ns (ps.getD k.toNat 0) (D.flushed fun _ => true).clean) (fun g => ?_) (Ent.refl _) (fun e => by rw [star_left_comm]; exact Ent.refl _)
    generalize ps.getD k.toNat 0 = p
    generalize R.gate k 0 64 = e0
    unfold dskAt dskX
    refine wps_ex fun ls => wps_ex fun mb => wps_ex fun sl => wps_ex fun sc => wps_prP fun hd => ?_
    repeat first | (with_reducible refine wps_nil ?_) | (refine wps_ld _ (by rfl) ?_)
    refine wps_rangeMap fun it => ?_
    have hD : D.ok R1.ns := hd.2.2
    refine wps_loopg (γ := (Int → Bool) × List Slc) (fun c _ => pr (c.2.length = R1.ns) * seqp c.2 (D.flushed c.1).lasts * cachep sc D.cached * own 1 ls (c.2.map vS) * pc p [vS ls, .map (some mb), .bool D.failed, .int .i64 D.count] * itr it mb (fun j => Option.map (fun _ => vS (sc j)) (D.cached j)) c.1) (fun c _ => toCome R1.ns c.1) (fun _ => false, sl) ?_ fun c _ => ?_
    · refine ent_pick (ent_pick (ent_pick (ent_pick ?_)))
      refine ent_prr hd.1 (Ent.trans (ent_drop (B := seqp sl D.lasts)) (seqp_ext fun i _ => ?_))
      simp only [Dk.flushed]
      cases D.cached i <;> rfl
    · obtain ⟨V, sl'⟩ := c
      simp only
      refine wps_prP fun hsl => ?_
      refine wps_next rfl (fun hall => ?_) (fun j v hj hV => ?_)
      · refine wps_mapR ?_
        repeat first | (with_reducible refine wps_nil ?_) | (refine wps_ld _ (by rfl) ?_)
        refine wps_swap (itr_imap it mb (fun j => Option.map (fun _ => vS (sc j)) (D.cached j)) V) (wps_clearS (wps_pure ?_))
        refine ent_prr rfl (ent_ex ls (ent_ex mb (ent_ex sl' (ent_ex sc ?_))))
        simp only [← star_assoc]
        refine ent_pickC (by rfl) (ent_pick (ent_pickM rfl (ent_pers ?_ (cachep_nil _ _))))
        refine ent_prr ⟨hsl, hd.2.1, ?_⟩ (Ent.trans (ent_drop (B := seqp sl' (D.flushed V).lasts)) (seqp_ext fun i _ => ?_))
        · exact ⟨(Dk.ok_flushed hD fun _ => true).1, fun j b h => by cases h⟩
        · show (D.flushed V).lasts i = (D.flushed fun _ => true).lasts i
          simp only [Dk.flushed]
          cases hci : D.cached i with
          | none => rfl
          | some b =>
            have := hall i (vS (sc i)) (by rw [hci]; rfl)
            simp [this]
      · cases hcj : D.cached j with
        | none => rw [hcj] at hj; cases hj
        | some b =>
          rw [hcj] at hj
          have hv : v = vS (sc j) := (Option.some.inj hj).symm
          obtain ⟨hb, hj0, hjn⟩ := hD.2 j b hcj
          refine wps_entry (sc j) rfl hv ?_
          repeat first | (with_reducible refine wps_nil ?_) | (refine wps_ld _ (by rfl) ?_)
          refine wps_wrS j.toNat (by simp; omega) (by omega) ?_
          refine wps_pure ?_
          refine Ent.trans ?_ (ent_ex (fun i => V i || i == j, sl'.set j.toNat (sc j)) (ent_prr (toCome_lt ⟨hj0, hjn⟩ hV) (Ent.refl _)))
          simp only
          refine ent_pick (ent_pick (ent_pickS (by rw [List.map_set]; rfl) ?_))
          refine ent_and (ent_prr (by simpa using hsl) (Ent.trans (seqp_set (k := j.toNat) (ent_drop (B := seqp sl' (D.flushed V).lasts)) (Ent.trans (ent_drop (B := cachep sc D.cached)) (cachep_get hcj))) (seqp_ext fun i _ => ?_))) ent_drop
          simp only [Dk.flushed]
          by_cases hij : i = j.toNat
          · have hij' : (i : Int) = j := by omega
            rw [if_pos hij, hij', hcj]
            simp
          · have hij' : ¬ (i : Int) = j := by omega
            rw [if_neg hij]
            cases D.cached i with
            | none => rfl
            | some b2 => simp [hij']
  · refine wps_ite (fun h => absurd (by simpa [gateV] using h) h0) (fun _ => wps_pure ?_)
    rw [Rk.flush, if_neg h0]
    exact ent_prr rfl (Ent.refl _)
end Go.Proofs.Ytldmeimebebllaa

namespace Go.Proofs.Ytldmeimebebllaa
open Go.Mo
set_option linter.unusedVariables false
variable {g : Fr} {cv : CV}
def zv (b : List Int) : List Value := b.map (Value.int .i64)
def intsP (s : Slc) (b : List Int) : HP := rsl 1 s (zv b)
instance (s : Slc) (b : List Int) : Pers (intsP s b) := by unfold intsP; infer_instance
instance (s : Slc) (b : List Int) : RdS 1 s (intsP s b) (zv b) := ⟨Ent.refl _⟩
instance (s : Slc) (b : List Int) : RdS 1 s (byt s b) (bv b) := ⟨Ent.refl _⟩
theorem cap_of {H : HP} {z : Nat} {s : Slc} {cs : List Value} (h : Ent H (rsl z s cs)) : Ent H (pr (s.len ≤ s.cap)) := Ent.trans h fun o ho => by
  rcases ho with ho | ⟨ad, all, ho⟩
  · show s.len ≤ s.cap
    have := ho.1
    omega
  · exact (ent_left _ _ o ho).2.2.1
def Rk.arm (R : Rk) (c : Int) : Rk := { R with count := maxI c (-1) }
theorem device_Rack_Off_val (rb : Nat) (R : Rk) (ds : Slc) (ps : List Nat) : Val g (rackP rb R ds ps) (device_Rack_Off (ptr rb)) R.off := by
  unfold device_Rack_Off rackP
  repeat first | (with_reducible refine wps_nil ?_) | (refine wps_ld _ (by rfl) ?_) | (with_reducible exact wps_pure (ent_val rfl))
def Rk.lErr (R : Rk) (k s : Int) : Int := if k < 0 ∨ k ≥ R.n ∨ s < 0 ∨ s ≥ R.ns then 11 else 0
def Rk.lst (R : Rk) (k s : Int) : List Int := if R.lErr k s = 0 then (R.dk k.toNat).lasts s.toNat else []
def secOf (im : List Int) (k : Nat) : List Int := (List.range 64).map fun i => im.getD (k * 64 + i) 0
theorem secOf_len (im : List Int) (k : Nat) : (secOf im k).length = 64 := by simp [secOf]
theorem ovw_sec (im : List Int) (n : Nat) : ovw (List.replicate 64 (Value.int .u8 0)) 0 ((((bv im).drop (min (n * 64) im.length * 1)).take ((im.length - min (n * 64) im.length) * 1)).take (min (im.length - min (n * 64) im.length) 64 * 1)) = bv (secOf im n) := by
  apply List.ext_getElem?
  intro i
  simp only [Nat.mul_one]
  generalize hl : min (n * 64) im.length = l
  have hsz : (((bv im).drop l).take (im.length - l)).length = im.length - l := by simp [bv]
  simp only [ovw, List.take_zero, List.nil_append, Nat.zero_add, List.length_take, hsz]
  simp only [bv, secOf, List.getElem?_map]
  by_cases hi : i < 64
  · rw [List.getElem?_range hi]
    simp only [Option.map_some]
    by_cases hin : i < min (im.length - l) 64
    · rw [List.getElem?_append_left (by simp; omega), List.getElem?_take, if_pos hin, List.getElem?_take, if_pos (by omega), List.getElem?_drop, List.getElem?_map]
      have hln : l = n * 64 := by omega
      have hlt : n * 64 + i < im.length := by omega
      rw [hln, List.getElem?_eq_getElem hlt]
      simp [List.getD_eq_getElem?_getD, List.getElem?_eq_getElem hlt]
    · rw [List.getElem?_append_right (by simp; omega), List.getElem?_drop]
      have hge : ¬ n * 64 + i < im.length := by omega
      rw [List.getElem?_replicate, if_pos (by simp; omega), List.getD_eq_getElem?_getD, List.getElem?_eq_none (by omega)]
      rfl
  · rw [List.getElem?_eq_none (by simp; omega), List.getElem?_eq_none (by simp; omega)]
    rfl
def Dk.load (D : Dk) (im : List Int) : Dk := { D with lasts := fun s => secOf im s, cached := fun _ => none }
def Rk.load (R : Rk) (k : Int) (im : List Int) : Rk := if k < 0 ∨ k ≥ R.n then R else R.setD k.toNat ((R.dk k.toNat).load im)
theorem device_Rack_Load_spec {H : HP} (rb : Nat) (R : Rk) (ds : Slc) (ps : List Nat) (k : Int) (x : Slc) (im : List Int) (hx : Ent H (byt x im)) (him : im.length ≤ 1099511627776) :
    wps g (H * rackP rb R ds ps) (device_Rack_Load (ptr rb) k x) (fun e => pr (e = if k < 0 ∨ k ≥ R.n then 11 else 0) * H * rackP rb (R.load k im) ds ps) := by
  unfold device_Rack_Load
  have hp : Ent (rackP rb R ds ps) (pr (ps.length = R.n ∧ ds.len = R.n ∧ R.n ≤ 17 ∧ R.ns ≤ 4096)) := Ent.trans (ent_left _ _) (Ent.trans (ent_left _ _) (ent_left _ _))
  refine wps_fact (Ent.trans (ent_right _ _) hp) fun ⟨h1, h2, h17, hns⟩ => ?_
  refine wps_fact (Ent.trans (ent_left _ _) (len_of hx)) fun hl => ?_
  refine wps_fact (Ent.trans (ent_left _ _) (cap_of hx)) fun hcap => ?_
  refine wps_val (v := decide (k < 0 ∨ k ≥ R.n)) ?_ ?_
  · unfold rackP
    apply val_eq
    · repeat first | (with_reducible refine wps_nil ?_) | (refine wps_ld _ (by rfl) ?_) | ((with_reducible apply val_ite); rotate_left; refine fun (_ : ¬ _) => ?_; rotate_right; refine fun (_ : _ = true) => ?_) | (with_reducible exact wps_pure (ent_val rfl))
    · rw [h2]
      by_cases h : k < 0 <;> by_cases h' : k ≥ (R.n : Int) <;> simp [h, h']
  by_cases hk : k < 0 ∨ k ≥ R.n
  · rw [if_pos hk, Rk.load, if_pos hk]
    exact wps_ite (fun _ => wps_pure (ent_pick (ent_prr rfl ent_drop))) (fun h => absurd (by simpa using hk) h)
  · rw [if_neg hk, Rk.load, if_neg hk]
    refine wps_ite (fun h => absurd (by simpa using h) hk) (fun _ => ?_)
    have hlt : k.toNat < R.n := by omega
    rw [← rackP_set _ hlt, rackP_focus rb R ds ps hlt]
    generalize R.dk k.toNat = D at *
    generalize hpd : ps.getD k.toNat 0 = p at *
    simp only [dskAt, dskX, ← star_assoc]
    refine wps_exP fun ls => wps_exP fun mb => wps_exP fun sl => wps_exP fun sc => ?_
    simp only [← star_assoc]
    refine wps_prP fun hd => ?_
    refine wps_prP fun hd2 => ?_
    repeat first | (with_reducible refine wps_nil ?_) | (refine wps_ld _ (by rfl) ?_)
    refine wps_rdS k.toNat (ptr p) (by omega) (by rw [pv_get (by omega), hpd]) ?_
    repeat first | (with_reducible refine wps_nil ?_) | (refine wps_ld _ (by rfl) ?_)
    refine wps_clearS ?_
    repeat first | (with_reducible refine wps_nil ?_) | (refine wps_ld _ (by rfl) ?_)
    refine wps_loop (fun i => ex fun n : Nat => ex fun sl' : List Slc => pr (i = (n : Int) ∧ n ≤ R.ns ∧ sl'.length = R.ns) * H * bst R.n (hole k.toNat (rackF R.ns R.dk ps)) * own 1 ds (ps.map pv) * pc rb [vS ds, .int .i64 R.ns, .int .i64 R.count, .bool R.off]
        * seqp sl' (fun s => if s < n then secOf im s else D.lasts s) * imap mb (fun _ => none) * own 1 ls (sl'.map vS) * pc p [vS ls, .map (some mb), .bool D.failed, .int .i64 D.count]) (fun i => (R.ns - i).toNat) ?_ fun i => ?_
    · refine ent_ex 0 (ent_ex sl ?_)
      have : (fun s : Nat => if s < 0 then secOf im s else D.lasts s) = D.lasts := by funext s; simp
      rw [this]
      repeat first | (with_reducible refine ent_pick ?_) | (refine ent_prq ?_)
      all_goals first | exact ⟨rfl, by omega, hd.1⟩ | trivial
    · refine wps_ex fun n => wps_ex fun sl' => wps_prP fun ⟨hi, hn, hsl'⟩ => ?_
      refine wps_ite (fun hc => ?_) (fun hc => ?_)
      · have hc' : n < R.ns := by simp only [decide_eq_true_eq] at hc; omega
        repeat with_reducible refine wps_alloc fun _ => ?_
        rename_i b
        have hw : w64 (i * 64) = ((n * 64 : Nat) : Int) := by rw [w64_id] <;> omega
        have hmin : minI (w64 (i * 64)) (x.len : Int) = ((min (n * 64) im.length : Nat) : Int) := by
          rw [hw, minI]; split <;> omega
        refine wps_slice (min (n * 64) im.length) im.length hmin (by simp [hl]) (by omega) (by omega) ?_
        refine wps_swap (A := pc b (List.replicate 64 (Value.int .u8 0))) (B := own 1 ⟨some ⟨b, 0, none⟩, 64, 64⟩ (List.replicate 64 (Value.int .u8 0))) (pc_own (n := 64) (z := 1) (by simp)) ?_
        refine wps_copyS (new := ((bv im).drop (min (n * 64) im.length * 1)).take ((im.length - min (n * 64) im.length) * 1)) ?_ ?_ ?_
        · exact Ent.trans (ent_drop (B := H)) (Ent.trans hx (rsl_sub (by omega) (by omega)))
        · exact fun v hv => bv_one im v (List.mem_of_mem_drop (List.mem_of_mem_take hv))
        have hov : ovw (List.replicate 64 (Value.int .u8 0)) 0 ((((bv im).drop (min (n * 64) im.length * 1)).take ((im.length - min (n * 64) im.length) * 1)).take (min (subS 1 x (min (n * 64) im.length) im.length).len 64 * 1)) = bv (secOf im n) := ovw_sec im n
        rw [hov]
        repeat first | (with_reducible refine wps_nil ?_) | (refine wps_ld _ (by rfl) ?_)
        refine wps_wrS n hi (by omega) ?_
        refine wps_pure (ent_prr (by rw [range_add1 hi (by omega)]; omega) (ent_ex (n + 1) (ent_ex (sl'.set n ⟨some ⟨b, 0, none⟩, 64, 64⟩) ?_)))
        refine ent_pick (ent_pickS (by rw [List.map_set]; rfl) (ent_pick ?_))
        refine ent_swap (A := own 1 ⟨some ⟨b, 0, none⟩, 64, 64⟩ (bv (secOf im n))) (own_rsl _ _ _) ?_
        refine ent_join (A := seqp sl' fun s => if s < n then secOf im s else D.lasts s) (B := rsl 1 ⟨some ⟨b, 0, none⟩, 64, 64⟩ (bv (secOf im n))) (Ent.trans (seqp_set (k := n) (b := secOf im n) (ent_left _ _) (ent_right _ _)) (seqp_ext fun s _ => ?_)) ?_
        · by_cases hs : s = n
          · subst hs; simp
          · have : s < n + 1 ↔ s < n := by omega
            simp [hs, this]
        · repeat first | (with_reducible refine ent_pick ?_) | (refine ent_prq ?_)
          all_goals first | exact ⟨range_add1 hi (by omega), by omega, by simpa using hsl'⟩ | trivial
      · have hne : n = R.ns := by simp only [decide_eq_true_eq] at hc; omega
        subst hne
        refine wps_mapR (wps_pure ?_)
        refine ent_exr ls ?_
        refine ent_exr mb ?_
        refine ent_exr sl' ?_
        refine ent_exr sc ?_
        simp only [← star_assoc]
        refine ent_pickC (by rfl) (ent_pick (ent_pickM (by rfl) (ent_pers ?_ (cachep_nil _ _))))
        have hq : Ent (seqp sl' fun s => if s < R.ns then secOf im s else D.lasts s) (seqp sl' (D.load im).lasts) := seqp_ext fun s hs => by
          rw [if_pos (by omega)]; rfl
        refine ent_swap (A := seqp sl' fun s => if s < R.ns then secOf im s else D.lasts s) hq ?_
        repeat first | (with_reducible refine ent_pick ?_) | (refine ent_prx ?_ ?_; rotate_left) | (refine ent_prq ?_)
        all_goals first | exact hd2 | rfl | trivial | exact ⟨hsl', hd.2.1, fun k _ => secOf_len im k, fun j b h => by cases h⟩
end Go.Proofs.Ytldmeimebebllaa
namespace Go.Proofs.Ytldmeimebebllaa
open Go.Mo
set_option linter.unusedVariables false
variable {g : Fr} {cv : CV}
def I6.nil : I6 := (0, 0, 0, 0, 0, 0)
def pickI (l : List I6) (i : Nat) : I6 := ((l.filter fun x => decide (I6.idx x = (i : Int))).headD I6.nil)
theorem pickI_of {l l' : List I6} (hp : l'.Perm l) {i : Nat} (h : cnt l i = 1) {x : I6} (hx : x ∈ l') (hi : I6.idx x = i) : pickI l i = x := by
  unfold pickI
  have h1 : (l.filter fun x => decide (I6.idx x = (i : Int))).length = 1 := by rw [← List.countP_eq_length_filter]; exact h
  have h2 : x ∈ l.filter fun x => decide (I6.idx x = (i : Int)) := List.mem_filter.2 ⟨hp.mem_iff.1 hx, by simpa using hi⟩
  match l.filter fun x => decide (I6.idx x = (i : Int)), h1, h2 with
  | [y], _, h2 => exact (List.mem_singleton.1 h2).symm
theorem sorted_take {l l' : List I6} (hp : l'.Perm l) (h : SortedF cf_scan_Groups_c1 l') (h0 : ∀ x ∈ l, 0 ≤ I6.idx x) {c : Int} (hw : wholeC l c = true) : l'.take c.toNat = (List.range c.toNat).map (pickI l) ∧ c.toNat ≤ l'.length ∧ 1 ≤ c := by
  unfold wholeC at hw
  simp only [Bool.and_eq_true, decide_eq_true_eq, List.all_eq_true, List.mem_range, beq_iff_eq] at hw
  obtain ⟨a1, a2, a3⟩ := sorted_first h (fun x hx => h0 x (hp.mem_iff.1 hx)) c.toNat fun i hi => by rw [cnt_perm hp]; exact hw.2 i hi
  refine ⟨?_, a1, hw.1⟩
  apply List.ext_getElem?
  intro i
  rw [List.getElem?_take, List.getElem?_map]
  by_cases hi : i < c.toNat
  · have hil : i < l'.length := by omega
    rw [if_pos hi, List.getElem?_range hi, List.getElem?_eq_getElem hil, Option.map_some]
    exact congrArg some (pickI_of hp (hw.2 i hi) (List.getElem_mem hil) (a2 i _ hi (List.getElem?_eq_getElem hil))).symm
  · rw [if_neg hi, List.getElem?_eq_none (by simpa using hi)]; rfl
abbrev Gr := Int × Int × List Int
def groupK (l : List I6) (k : Int × Int) : Gr := (k.1, (pickI (grp l k) (k.2.toNat - 1)).root, (List.range k.2.toNat).map fun i => (pickI (grp l k) i).seg)
theorem grp_ok {l : List I6} {k : Int × Int} : ∀ x ∈ grp l k, 0 ≤ I6.idx x := fun x hx => by
  unfold grp at hx
  have := (List.mem_filter.1 hx).2
  simp only [Bool.and_eq_true] at this
  have h := of_decide_eq_true (show decide (0 ≤ I6.idx x ∧ I6.idx x ≤ I6.seq x) = true from this.1)
  exact h.1
def grRow (x : Gr × Slc) : Int × Int × Slc := (x.1.1, x.1.2.1, x.2)
def segsP (zs : List (Gr × Slc)) : HP := al fun x : Gr × Slc => imp (x ∈ zs) (intsP x.2 x.1.2.2)
instance (zs : List (Gr × Slc)) : Pers (segsP zs) := by unfold segsP; infer_instance
def groupsO (y : Slc) (gs : List Gr) : HP := ex fun zs : List (Gr × Slc) => pr (zs.map (·.1) = gs) * segsP zs * own 3 y ((zs.map grRow).flatMap encG3)
theorem encG3_len (x : Int × Int × Slc) : (encG3 x).length = 3 := rfl
theorem segsP_nil (A : HP) : Ent A (segsP []) := fun o _ x hx => by simp at hx
theorem segsP_snoc {zs : List (Gr × Slc)} {x : Gr × Slc} {A : HP} (h : Ent A (segsP zs)) (h2 : Ent A (intsP x.2 x.1.2.2)) : Ent A (segsP (zs ++ [x])) := fun o ho y hy => by
  rcases List.mem_append.1 hy with hy | hy
  · exact h o ho y hy
  · have : y = x := by simpa using hy
    subst this
    exact h2 o ho
theorem segsP_get {zs : List (Gr × Slc)} {x : Gr × Slc} (hx : x ∈ zs) : Ent (segsP zs) (intsP x.2 x.1.2.2) := fun o ho => ho x hx
theorem segsP_perm {zs zs' : List (Gr × Slc)} (h : zs'.Perm zs) : Ent (segsP zs) (segsP zs') := fun o ho x hx => ho x (h.mem_iff.1 hx)
end Go.Proofs.Ytldmeimebebllaa
namespace Go.Proofs.Ytldmeimebebllaa
open Go.Mo
set_option linter.unusedVariables false
variable {g : Fr} {cv : CV}
theorem ent_pr5 {p : Prop} {A B C D E F : HP} (hp : p) (h : Ent F (A * B * C * D * E)) : Ent F (pr p * A * B * C * D * E) := Ent.trans h (Ent.trans (ent_pr hp) (Ent.of_eq (by simp only [star_assoc])))
theorem groups_build {F : HP} {t s3 : Slc} {ms : List I6} {zs : List (Gr × Slc)} {q r : Int} {x10 : Nat} (hn : ms.length ≤ 100000) (ht : Ent F (rsl 6 t (ms.flatMap encI6))) (hz : s3.len ≤ 100000) {Q : Slc ⊕ Slc → HP}
    (hQ : ∀ s4 u, Ent (F * segsP (zs ++ [((q, r, ms.map I6.seg), u)]) * own 3 s4 (((zs ++ [((q, r, ms.map I6.seg), u)]).map grRow).flatMap encG3)) (Q (.inl s4))) :
    wps g (F * pc x10 [.int .i64 q, .int .i64 r, .slice none 0 0] * segsP zs * own 3 s3 ((zs.map grRow).flatMap encG3))
      (loopM (fun (s5 : (Int)) =>
              (if (decide (s5 < ((t.len : Nat) : Int))) = true then
                bindM (idxM t s5 6) fun x84 =>
                  bindM (ldA (fun y : (Int × Int × Int × Int × Int × Int) => [(.int .i64 y.1), (.int .i64 y.2.1), (.int .i64 y.2.2.1), (.int .i64 y.2.2.2.1), (.int .i64 y.2.2.2.2.1), (.int .i64 y.2.2.2.2.2)]) x84) fun x85 =>
                  bindM (allocM [(.int .i64 0), (.int .i64 0), (.int .i64 0), (.int .i64 0), (.int .i64 0), (.int .i64 0)]) fun x12 =>
                  bindM (stA x12 [(.int .i64 x85.1), (.int .i64 x85.2.1), (.int .i64 x85.2.2.1), (.int .i64 x85.2.2.2.1), (.int .i64 x85.2.2.2.2.1), (.int .i64 x85.2.2.2.2.2)]) fun _ =>
                  bindM (ld vS (Addr.add ⟨x10, 0, none⟩ 2)) fun x87 =>
                  bindM (ld (Value.int .i64) x12) fun x89 =>
                  bindM (allocM [(.int .i64 x89)]) fun x90 =>
                  bindM (appendM [(.int .i64 0)] 8 x87 ⟨some x90, 1, 1⟩) fun x91 =>
                  bindM (st (Addr.add ⟨x10, 0, none⟩ 2) (.slice x91.base x91.len x91.cap)) fun _ =>
                  pureM (.inl (w64 (s5 + 1)))
                else
                mapR (bindM (ldA (fun y : (Int × Int × Slc) => [(.int .i64 y.1), (.int .i64 y.2.1), (.slice y.2.2.base y.2.2.len y.2.2.cap)]) ⟨x10, 0, none⟩) fun x95 =>
                  bindM (allocM [(.int .i64 x95.1), (.int .i64 x95.2.1), (.slice x95.2.2.base x95.2.2.len x95.2.2.cap)]) fun x96 =>
                  bindM (appendM [(.int .i64 0), (.int .i64 0), (.slice none 0 0)] 40 s3 ⟨some x96, 1, 1⟩) fun x97 =>
                  pureM (.inl x97)))) 0) Q := by
  refine wps_fact (Ent.trans (ent_pick1 (A := F)) (Ent.trans ht (rsl_len _ _ _))) fun hlen => ?_
  rw [flat_len encI6_len] at hlen
  have hlen : ms.length = t.len := by omega
  refine wps_loop (fun st => ex fun i : Nat => ex fun u : Slc => pr (st = (i : Int) ∧ i ≤ ms.length ∧ u.len = i) * F * pc x10 [.int .i64 q, .int .i64 r, vS u] * segsP zs * own 3 s3 ((zs.map grRow).flatMap encG3) * own 1 u (zv ((ms.take i).map I6.seg))) (fun st => (ms.length - st).toNat) ?_ fun st => ?_
  · refine ent_ex 0 (ent_ex ⟨none, 0, 0⟩ ?_)
    refine ent_own0 (z := 1) ?_
    refine ent_pr4 ⟨rfl, by omega, rfl⟩ (Ent.refl _)
  refine wps_ex fun i => wps_ex fun u => wps_prP fun ⟨hi, hin, hu⟩ => ?_
  refine wps_ite (fun hc => ?_) (fun hc => ?_)
  · have hlt : i < ms.length := by simp only [decide_eq_true_eq] at hc; omega
    have hget : ms[i]? = some ms[i] := List.getElem?_eq_getElem hlt
    have htk : ms.take (i + 1) = ms.take i ++ [ms[i]] := by rw [List.take_add_one, hget]; rfl
    refine wps_rdA i ms[i] (Ent.trans (ent_pick1 (A := F)) ht) hi (by simp) (fun j v hj => ?_) ?_
    · have h5 : j < 6 := by have := (List.getElem?_eq_some_iff.1 hj).1; simpa using this
      rw [flat_get encI6_len hget h5]; exact hj
    refine wps_alloc fun x12 => ?_
    refine wps_stA (by simp) (by simp [Value.oneCell']) ?_
    refine wps_ld u (by rfl) ?_
    refine wps_ld (I6.seg ms[i]) (by rfl) ?_
    refine wps_alloc fun x90 => ?_
    refine wps_app 1 [.int .i64 (I6.seg ms[i])] rfl (by decide) (Ent.trans (ent_pick1 (A := pc x90 [.int .i64 (I6.seg ms[i])])) (rsl_pc rfl)) (by simp [Value.oneCell']) (show (16 * (u.len + 1) + 4096) * 8 ≤ 2 ^ 48 by omega) fun u2 hu2 => ?_
    refine wps_st (by simp) ?_
    have hrg : w64 (st + 1) = ((i + 1 : Nat) : Int) := range_add1 hi (by omega)
    refine wps_pure (ent_prr (by rw [hrg]; omega) (ent_ex (i + 1) (ent_ex u2 ?_)))
    have hzv : zv ((ms.take (i + 1)).map I6.seg) = zv ((ms.take i).map I6.seg) ++ [.int .i64 (I6.seg ms[i])] := by rw [htk, List.map_append]; simp only [zv, List.map_append, List.map_cons, List.map_nil]
    rw [hzv]
    refine ent_pr5 ⟨hrg, by omega, by rw [hu2, hu]⟩ ?_
    repeat (first
      | (with_reducible exact ent_drop)
      | (with_reducible refine ent_pick ?_)
      | (refine ent_pickC (by rfl) ?_)
      | (refine ent_pickS (by rfl) ?_)
      | (refine ent_pickM (by rfl) ?_)
      | (refine ent_prx ?_ ?_; rotate_left)
      | (refine ent_prq ?_))
  · have hie : i = ms.length := by simp only [decide_eq_true_eq] at hc; omega
    have htl : ms.take i = ms := by rw [hie, List.take_length]
    rw [htl]
    refine wps_mapR ?_
    refine wps_ldA (q, r, u) (by rfl) ?_
    refine wps_alloc fun x96 => ?_
    dsimp only
    refine wps_app 3 (encG3 (q, r, u)) rfl (by decide) (Ent.trans (ent_pick1 (A := pc x96 [.int .i64 q, .int .i64 r, .slice u.base u.len u.cap])) (rsl_pc rfl)) (by simp [encG3, vS, Value.oneCell']) (show (16 * (s3.len + 1) + 4096) * 40 ≤ 2 ^ 48 by omega) fun s4 hs4 => ?_
    refine wps_pure ?_
    have e1 : Ent (segsP zs * own 1 u (zv (ms.map I6.seg))) (segsP (zs ++ [((q, r, ms.map I6.seg), u)])) := segsP_snoc (ent_left _ _) (Ent.trans (ent_right _ _) (own_rsl _ _ _))
    have e2 : ((zs ++ [((q, r, ms.map I6.seg), u)]).map grRow).flatMap encG3 = (zs.map grRow).flatMap encG3 ++ encG3 (q, r, u) := by simp [grRow]
    refine Ent.trans (B := F * (segsP zs * own 1 u (zv (ms.map I6.seg))) * own 3 s4 ((zs.map grRow).flatMap encG3 ++ encG3 (q, r, u))) ?_ (Ent.trans (Ent.starl (Ent.starr e1)) ?_)
    · simp only [← star_assoc]
      repeat (first
        | (with_reducible exact ent_drop)
        | (with_reducible refine ent_pick ?_)
        | (refine ent_pickC (by rfl) ?_)
        | (refine ent_pickS (by rfl) ?_)
        | (refine ent_pickM (by rfl) ?_)
        | (refine ent_prx ?_ ?_; rotate_left)
        | (refine ent_prq ?_))
    · rw [← e2]
      exact hQ s4 u
end Go.Proofs.Ytldmeimebebllaa
namespace Go.Proofs.Ytldmeimebebllaa
open Go.Mo
set_option linter.unusedVariables false
variable {g : Fr} {cv : CV}
def wholeK (l : List I6) (k : Int × Int) : Bool := wholeC (grp l k) k.2
structure Go2 (l : List I6) (ks ds rs : List (Int × Int)) (zs : List (Gr × Slc)) : Prop where
  all : (ds ++ rs).Perm ks
  got : (zs.map (·.1)).Perm ((ds.filter (wholeK l)).map (groupK l))
def visF (ds : List (Int × Int)) : Int × Int → Bool := fun k => decide (k ∈ ds)
theorem visF_cons (ds : List (Int × Int)) (j : Int × Int) : (fun i => visF ds i || i == j) = visF (j :: ds) := by
  funext i
  unfold visF
  by_cases h : i = j
  · subst h; simp
  · have : (i == j) = false := by simpa using h
    simp [h, this]
theorem Go2.step_no {l : List I6} {ks ds rs : List (Int × Int)} {zs : List (Gr × Slc)} {j : Int × Int} (h : Go2 l ks ds rs zs) (hj : j ∈ rs) (hw : wholeK l j = false) : Go2 l ks (j :: ds) (rs.erase j) zs := ⟨by
  refine List.Perm.trans ?_ h.all
  have h1 : rs.Perm (j :: rs.erase j) := List.perm_cons_erase hj
  exact (List.perm_middle.symm).trans ((List.Perm.refl ds).append h1.symm), by rw [List.filter_cons, if_neg (by simp [hw])]; exact h.got⟩
theorem Go2.step_yes {l : List I6} {ks ds rs : List (Int × Int)} {zs : List (Gr × Slc)} {j : Int × Int} (h : Go2 l ks ds rs zs) (hj : j ∈ rs) (hw : wholeK l j = true) (u : Slc) : Go2 l ks (j :: ds) (rs.erase j) (zs ++ [(groupK l j, u)]) := ⟨by
  refine List.Perm.trans ?_ h.all
  have h1 : rs.Perm (j :: rs.erase j) := List.perm_cons_erase hj
  exact (List.perm_middle.symm).trans ((List.Perm.refl ds).append h1.symm), by
  rw [List.filter_cons, if_pos hw, List.map_cons, List.map_append, List.map_cons, List.map_nil]
  exact List.perm_append_comm.trans (List.Perm.cons _ h.got)⟩
theorem Go2.done {l : List I6} {ks ds rs : List (Int × Int)} {zs : List (Gr × Slc)} (h : Go2 l ks ds rs zs) (hn : ks.Nodup) (ha : ∀ k ∈ ks, k ∈ ds) : (zs.map (·.1)).Perm ((ks.filter (wholeK l)).map (groupK l)) := by
  have hr : rs = [] := by
    cases rs with
    | nil => rfl
    | cons r rs =>
      have h1 : r ∈ ks := h.all.mem_iff.1 (by simp)
      have h2 := ha r h1
      have h3 := (h.all.nodup_iff).2 hn
      exact absurd rfl ((List.nodup_append.1 h3).2.2 r h2 r (by simp))
  subst hr
  have h4 : ds.Perm ks := by simpa using h.all
  exact h.got.trans ((h4.filter _).map _)
end Go.Proofs.Ytldmeimebebllaa
namespace Go.Proofs.Ytldmeimebebllaa
open Go.Mo
set_option linter.unusedVariables false
variable {g : Fr} {cv : CV}
def remP (l : List I6) (rs : List (Int × Int)) (slf : Int × Int → Slc) : HP := lst rs fun k => own 6 (slf k) ((grp l k).flatMap encI6)
theorem remP_open {l : List I6} {rs : List (Int × Int)} {k : Int × Int} {slf : Int × Int → Slc} (h : k ∈ rs) : remP l rs slf = remP l (rs.erase k) slf * own 6 (slf k) ((grp l k).flatMap encI6) := lst_erase (F := fun k => own 6 (slf k) ((grp l k).flatMap encI6)) h
def outP (l : List I6) (ks : List (Int × Int)) (y : Slc) : HP := ex fun zs : List (Gr × Slc) => pr ((zs.map (·.1)).Perm ((ks.filter (wholeK l)).map (groupK l)) ∧ SortedF cf_scan_Groups_c2 (zs.map grRow)) * segsP zs * own 3 y ((zs.map grRow).flatMap encG3)
theorem perm_pull {α β : Type} {f : α → β} : ∀ {l' : List β} {l : List α}, l'.Perm (l.map f) → ∃ z : List α, z.Perm l ∧ z.map f = l' := by
  intro l' l h
  generalize hm : l.map f = m at h
  induction h generalizing l with
  | nil => exact ⟨[], by rw [List.map_eq_nil_iff.1 hm], rfl⟩
  | cons x h ih =>
    rename_i a b
    match l, hm with
    | y :: l, hm =>
      simp only [List.map_cons, List.cons.injEq] at hm
      obtain ⟨z, h1, h2⟩ := ih hm.2
      exact ⟨y :: z, h1.cons y, by rw [List.map_cons, h2, hm.1]⟩
  | swap x y t =>
    match l, hm with
    | a :: b :: l, hm =>
      simp only [List.map_cons, List.cons.injEq] at hm
      exact ⟨b :: a :: l, List.Perm.swap _ _ _, by simp [hm.1, hm.2.1, hm.2.2]⟩
  | trans h1 h2 ih1 ih2 =>
    obtain ⟨z, a1, a2⟩ := ih2 hm
    obtain ⟨z2, b1, b2⟩ := ih1 a2
    exact ⟨z2, b1.trans a1, b2⟩
theorem Go2.few {l : List I6} {ks ds rs : List (Int × Int)} {zs : List (Gr × Slc)} (h : Go2 l ks ds rs zs) (hk : KsOk l ks) : zs.length ≤ l.length := by
  have h1 := h.got.length_eq
  have h2 := h.all.length_eq
  have h3 := hk.few
  have h4 := List.length_filter_le (wholeK l) ds
  simp only [List.length_map, List.length_append] at h1 h2
  omega
theorem scan_Groups_raw (s : Slc) (l : List I6) (hl : l.length ≤ 100000) : wps g (infosP s l) (scan_Groups s) (fun y => ex fun ks => pr (KsOk l ks) * infosP s l * outP l ks y) := by
  unfold scan_Groups
  simp only [Addr.add_add, Nat.reduceAdd]
  refine groups_first hl fun m ks slf hks => ?_
  refine wps_rangeMap2 (H' := infosP s l * heldP l ks slf) (f := mapF ks slf) (m := m) (by ac_rfl) fun it => ?_
  refine wps_loopg (γ := List (Int × Int) × List (Int × Int) × List (Gr × Slc)) (fun c (st : Slc) => pr (Go2 l ks c.1 c.2.1 c.2.2) * infosP s l * itr2 it m (mapF ks slf) (visF c.1) * remP l c.2.1 slf * segsP c.2.2 * own 3 st ((c.2.2.map grRow).flatMap encG3)) (fun c _ => c.2.1.length) ([], ks, []) ?_ fun c st => ?_
  · rw [show (fun _ : Int × Int => false) = visF [] by funext k; simp [visF]]
    refine ent_own0 (z := 3) (ent_pers ?_ (segsP_nil _))
    show Ent _ (_ * infosP s l * _ * heldP l ks slf)
    refine ent_pr3 ⟨by simp, by simp⟩ ?_
    repeat (first
      | (with_reducible exact ent_drop)
      | (with_reducible refine ent_pick ?_)
      | (refine ent_pickC (by rfl) ?_)
      | (refine ent_pickS (by rfl) ?_)
      | (refine ent_pickM (by rfl) ?_)
      | (refine ent_prx ?_ ?_; rotate_left)
      | (refine ent_prq ?_))
  obtain ⟨ds, rs, zs⟩ := c
  refine wps_prP fun hgo => ?_
  have hgo : Go2 l ks ds rs zs := hgo
  have hzl : zs.length ≤ l.length := hgo.few hks
  refine wps_next2 (H' := infosP s l * remP l rs slf * segsP zs * own 3 st ((zs.map grRow).flatMap encG3)) (f := mapF ks slf) (V := visF ds) (by simp only [emp_star]; ac_rfl) (fun hall => ?_) (fun j v hf hv => ?_)
  · dsimp only
    refine wps_mapR ?_
    refine wps_sortF (γ := Int × Int × Slc) (H' := infosP s l * remP l rs slf * segsP zs * itr2 it m (mapF ks slf) (visF ds)) (l := zs.map grRow) (by decide) encG3_len (by ac_rfl) (by simp; omega) fun l' hp hs => ?_
    obtain ⟨z, z1, z2⟩ := perm_pull hp
    have hd := hgo.done hks.nodup fun k hk => by
      have := hall k _ (show mapF ks slf k = some (vS (slf k)) by simp [mapF, hk])
      exact of_decide_eq_true this
    refine wps_pure ?_
    rw [← z2]
    refine ent_ex ks (Ent.trans (B := infosP s l * (segsP z * own 3 st ((z.map grRow).flatMap encG3))) ?_ ?_)
    · refine Ent.trans (B := infosP s l * (segsP zs * own 3 st ((z.map grRow).flatMap encG3))) ?_ (Ent.starr (Ent.starl (segsP_perm z1)))
      simp only [← star_assoc]
      repeat (first
        | (with_reducible exact ent_drop)
        | (with_reducible refine ent_pick ?_)
        | (refine ent_pickC (by rfl) ?_)
        | (refine ent_pickS (by rfl) ?_)
        | (refine ent_pickM (by rfl) ?_)
        | (refine ent_prx ?_ ?_; rotate_left)
        | (refine ent_prq ?_))
    · have ho : Ent (segsP z * own 3 st ((z.map grRow).flatMap encG3)) (outP l ks st) := ent_ex z (Ent.trans (ent_pr (p := (z.map (·.1)).Perm ((ks.filter (wholeK l)).map (groupK l)) ∧ SortedF cf_scan_Groups_c2 (z.map grRow)) ⟨(z1.map _).trans hd, by rw [z2]; exact hs⟩) (Ent.of_eq (by simp only [star_assoc])))
      exact Ent.trans (Ent.starr ho) (Ent.trans (ent_pr hks) (Ent.of_eq (by simp only [star_assoc])))
  · have hjk : j ∈ ks ∧ v = vS (slf j) := by
      unfold mapF at hf
      split at hf
      · exact ⟨by assumption, (Option.some.inj hf).symm⟩
      · cases hf
    have hjr : j ∈ rs := by
      rcases List.mem_append.1 (hgo.all.mem_iff.2 hjk.1) with h | h
      · exact absurd (decide_eq_true h) (by unfold visF at hv; simp [hv])
      · exact h
    dsimp only
    refine wps_entry2 (H' := infosP s l * remP l rs slf * segsP zs * own 3 st ((zs.map grRow).flatMap encG3)) (slf j) rfl hjk.2 ?_
    rw [visF_cons]
    refine wps_alloc fun x8 => ?_
    refine wps_stA (by simp) (by simp [Value.oneCell']) ?_
    refine wps_pre (H' := infosP s l * remP l (rs.erase j) slf * segsP zs * own 3 st ((zs.map grRow).flatMap encG3) * itr2 it m (mapF ks slf) (visF (j :: ds)) * pc x8 [.int .i64 j.1, .int .i64 j.2] * own 6 (slf j) ((grp l j).flatMap encI6)) ?_ ?_
    · rw [remP_open hjr]
      simp only [← star_assoc]
      repeat (first
        | (with_reducible exact ent_drop)
        | (with_reducible refine ent_pick ?_)
        | (refine ent_pickC (by rfl) ?_)
        | (refine ent_pickS (by rfl) ?_)
        | (refine ent_pickM (by rfl) ?_)
        | (refine ent_prx ?_ ?_; rotate_left)
        | (refine ent_prq ?_))
    have hgl := grp_len l j
    refine wps_sortF (γ := I6) (by decide) encI6_len rfl (by omega) fun l' hp hs => ?_
    refine wps_eq (H' := infosP s l * remP l (rs.erase j) slf * segsP zs * own 3 st ((zs.map grRow).flatMap encG3) * itr2 it m (mapF ks slf) (visF (j :: ds)) * pc x8 [.int .i64 j.1, .int .i64 j.2] * own 6 (slf j) (l'.flatMap encI6)) rfl ?_
    refine wps_ld j.2 (by rfl) ?_
    have hll : l'.length ≤ 100000 := by rw [hp.length_eq]; omega
    have hw : wholeB l' j.2 = wholeK l j := whole_iff hp hs grp_ok j.2
    refine wps_val (scan_whole_val (l := l') (Ent.trans (ent_right _ _) (own_rsl _ _ _)) (by omega)) ?_
    rw [hw]
    refine wps_ite (fun hno => ?_) (fun hyes => ?_)
    · have hno : wholeK l j = false := by simpa using hno
      refine wps_pure ?_
      refine ent_ex (j :: ds, rs.erase j, zs) (ent_prr (by show (rs.erase j).length < rs.length; have := List.length_erase_of_mem hjr; have := List.length_pos_of_mem hjr; omega) ?_)
      refine ent_pr5 (hgo.step_no hjr hno) ?_
      repeat (first
        | (with_reducible exact ent_drop)
        | (with_reducible refine ent_pick ?_)
        | (refine ent_pickC (by rfl) ?_)
        | (refine ent_pickS (by rfl) ?_)
        | (refine ent_pickM (by rfl) ?_)
        | (refine ent_prx ?_ ?_; rotate_left)
        | (refine ent_prq ?_))
    · have hyes : wholeK l j = true := by simpa using hyes
      obtain ⟨t1, t2, t3⟩ := sorted_take hp hs grp_ok hyes
      refine wps_ld j.2 (by rfl) ?_
      refine wps_fact (Ent.trans (ent_right _ _) (own_len _ _ _)) fun hol => ?_
      rw [flat_len encI6_len] at hol
      have hle : l'.length = (slf j).len := by omega
      generalize hH : infosP s l * remP l (rs.erase j) slf * segsP zs * own 3 st ((zs.map grRow).flatMap encG3) * itr2 it m (mapF ks slf) (visF (j :: ds)) * pc x8 [.int .i64 j.1, .int .i64 j.2] * own 6 (slf j) (l'.flatMap encI6) = HH
      have hv : Val g HH (sliceM (slf j) none (some j.2) 6) (subS 6 (slf j) 0 j.2.toNat) := sliceM_val rfl (by simp; omega) (Nat.zero_le _) (by omega)
      refine wps_val hv ?_
      subst hH
      have hsub : Ent (own 6 (slf j) (l'.flatMap encI6)) (rsl 6 (subS 6 (slf j) 0 j.2.toNat) (((List.range j.2.toNat).map (pickI (grp l j))).flatMap encI6)) := Ent.trans (own_rsl _ _ _) (Ent.trans (rsl_sub (l := 0) (h := j.2.toNat) (by omega) (by omega)) (Ent.of_eq (by
        congr 1
        simp only [Nat.zero_mul, List.drop_zero, Nat.sub_zero]
        rw [flat_take encI6_len, t1])))
      have e6 : (subS 6 (slf j) 0 j.2.toNat).len = j.2.toNat := by simp [subS]
      generalize subS 6 (slf j) 0 j.2.toNat = t at *
      refine wps_regionH ?_
      refine wps_ldI j.1 (by rfl) ?_
      have hn1 : w64 (((t.len : Nat) : Int) - 1) = ((j.2.toNat - 1 : Nat) : Int) := by rw [w64_id (by omega) (by omega)]; omega
      have hget : ((List.range j.2.toNat).map (pickI (grp l j)))[j.2.toNat - 1]? = some (pickI (grp l j) (j.2.toNat - 1)) := by
        rw [List.getElem?_map, List.getElem?_range (by omega)]; rfl
      refine wps_rdFI (f := 5) (j.2.toNat - 1) (I6.root (pickI (grp l j) (j.2.toNat - 1))) (Ent.trans (ent_right _ _) hsub) (Ent.refl _) hn1 (by omega) (by rw [flat_get encI6_len hget (by omega)]; rfl) ?_
      refine wps_stepAlloc fun x10 => ?_
      refine wps_stA (by simp) (by simp [Value.oneCell']) ?_
      refine wps_fact (Ent.trans (ent_pick1 (A := own 3 st ((zs.map grRow).flatMap encG3))) (own_len _ _ _)) fun hst => ?_
      rw [flat_len encG3_len, List.length_map] at hst
      refine wps_pre (H' := (infosP s l * remP l (rs.erase j) slf * itr2 it m (mapF ks slf) (visF (j :: ds)) * pc x8 [.int .i64 j.1, .int .i64 j.2] * own 6 (slf j) (l'.flatMap encI6)) * pc x10 [.int .i64 j.1, .int .i64 (I6.root (pickI (grp l j) (j.2.toNat - 1))), .slice none 0 0] * segsP zs * own 3 st ((zs.map grRow).flatMap encG3)) ?_ ?_
      · repeat (first
          | (with_reducible exact ent_drop)
          | (with_reducible refine ent_pick ?_)
          | (refine ent_pickC (by rfl) ?_)
          | (refine ent_pickS (by rfl) ?_)
          | (refine ent_pickM (by rfl) ?_)
          | (refine ent_prx ?_ ?_; rotate_left)
          | (refine ent_prq ?_))
      refine groups_build (F := infosP s l * remP l (rs.erase j) slf * itr2 it m (mapF ks slf) (visF (j :: ds)) * pc x8 [.int .i64 j.1, .int .i64 j.2] * own 6 (slf j) (l'.flatMap encI6)) (ms := (List.range j.2.toNat).map (pickI (grp l j))) (by simp; omega) (Ent.trans (ent_right _ _) hsub) (by omega) fun s4 u => ?_
      have hg : zs ++ [((j.1, I6.root (pickI (grp l j) (j.2.toNat - 1)), ((List.range j.2.toNat).map (pickI (grp l j))).map I6.seg), u)] = zs ++ [(groupK l j, u)] := by
        simp only [groupK, List.map_map]
        rfl
      rw [hg]
      refine ent_ex (j :: ds, rs.erase j, zs ++ [(groupK l j, u)]) (ent_prr (by show (rs.erase j).length < rs.length; have := List.length_erase_of_mem hjr; have := List.length_pos_of_mem hjr; omega) ?_)
      refine ent_pr5 (hgo.step_yes hjr hyes u) ?_
      simp only [← star_assoc]
      repeat (first
        | (with_reducible exact ent_drop)
        | (with_reducible refine ent_pick ?_)
        | (refine ent_pickC (by rfl) ?_)
        | (refine ent_pickS (by rfl) ?_)
        | (refine ent_pickM (by rfl) ?_)
        | (refine ent_prx ?_ ?_; rotate_left)
        | (refine ent_prq ?_))
end Go.Proofs.Ytldmeimebebllaa
namespace Go.Proofs.Ytldmeimebebllaa
open Go.Mo
set_option linter.unusedVariables false
variable {g : Fr} {cv : CV}
def ltG (x y : Gr) : Bool := decide (x.1 < y.1 ∨ x.1 = y.1 ∧ x.2.2.length < y.2.2.length)
end Go.Proofs.Ytldmeimebebllaa
namespace Go.Proofs.Ytldmeimebebllaa
open Go.Mo
set_option linter.unusedVariables false
variable {g : Fr} {cv : CV}
def MemG (l : List I6) (x : Gr) : Prop := ∃ k, (∃ y ∈ l, I6.ok y = true ∧ I6.key y = k) ∧ wholeK l k = true ∧ groupK l k = x
structure IsG (l : List I6) (gs : List Gr) : Prop where
  mem : ∀ x, x ∈ gs ↔ MemG l x
  srt : gs.Pairwise fun x y => ltG x y = true
theorem ltG_irr (x : Gr) : ltG x x = false := by simp [ltG]
theorem ltG_tr (x y z : Gr) (h1 : ltG x y = true) (h2 : ltG y z = true) : ltG x z = true := by
  unfold ltG at *
  simp only [decide_eq_true_eq] at *
  omega
theorem sorted_mem {α : Type} {lt : α → α → Bool} (hirr : ∀ x, lt x x = false) (htr : ∀ x y z, lt x y = true → lt y z = true → lt x z = true) : ∀ {a b : List α}, (∀ x, x ∈ a ↔ x ∈ b) → a.Pairwise (fun x y => lt x y = true) → b.Pairwise (fun x y => lt x y = true) → a = b
  | [], [], _, _, _ => rfl
  | [], y :: b, h, _, _ => absurd ((h y).2 (by simp)) (by simp)
  | x :: a, [], h, _, _ => absurd ((h x).1 (by simp)) (by simp)
  | x :: a, y :: b, h, ha, hb => by
    have hxy : x = y := by
      rcases List.mem_cons.1 ((h x).1 (by simp)) with e | h1
      · exact e
      rcases List.mem_cons.1 ((h y).2 (by simp)) with e | h2
      · exact e.symm
      have a1 := (List.pairwise_cons.1 hb).1 x h1
      have a2 := (List.pairwise_cons.1 ha).1 y h2
      have := htr _ _ _ a1 a2
      rw [hirr] at this
      cases this
    subst hxy
    have ha1 := (List.pairwise_cons.1 ha).1
    have hb1 := (List.pairwise_cons.1 hb).1
    have : a = b := sorted_mem hirr htr (fun z => ⟨fun hz => by
      rcases List.mem_cons.1 ((h z).1 (by simp [hz])) with e | h1
      · subst e; have := ha1 z hz; rw [hirr] at this; cases this
      · exact h1, fun hz => by
      rcases List.mem_cons.1 ((h z).2 (by simp [hz])) with e | h1
      · subst e; have := hb1 z hz; rw [hirr] at this; cases this
      · exact h1⟩) (List.pairwise_cons.1 ha).2 (List.pairwise_cons.1 hb).2
    rw [this]
theorem IsG.one {l : List I6} {a b : List Gr} (h : IsG l a) (h2 : IsG l b) : a = b := sorted_mem ltG_irr ltG_tr (fun x => (h.mem x).trans (h2.mem x).symm) h.srt h2.srt
theorem wholeC_pos {l : List I6} {c : Int} (h : wholeC l c = true) : 1 ≤ c := by
  unfold wholeC at h
  simp only [Bool.and_eq_true, decide_eq_true_eq] at h
  exact h.1
theorem groupK_len (l : List I6) (k : Int × Int) : (groupK l k).2.2.length = k.2.toNat := by simp [groupK]
theorem groupK_inj {l : List I6} {k j : Int × Int} (hk : wholeK l k = true) (hj : wholeK l j = true) (h1 : (groupK l k).1 = (groupK l j).1) (h2 : (groupK l k).2.2.length = (groupK l j).2.2.length) : k = j := by
  rw [groupK_len, groupK_len] at h2
  have a := wholeC_pos hk
  have b := wholeC_pos hj
  have c : k.1 = j.1 := h1
  obtain ⟨k1, k2⟩ := k
  obtain ⟨j1, j2⟩ := j
  dsimp only at *
  have : k2 = j2 := by omega
  rw [c, this]
theorem nodup_whole {l : List I6} : ∀ {ks : List (Int × Int)}, ks.Nodup → (∀ k ∈ ks, wholeK l k = true) → (ks.map (groupK l)).Nodup
  | [], _, _ => by simp
  | k :: ks, hn, hw => by
    rw [List.map_cons, List.nodup_cons]
    refine ⟨fun hm => ?_, nodup_whole (List.nodup_cons.1 hn).2 fun j hj => hw j (by simp [hj])⟩
    obtain ⟨j, hj, he⟩ := List.mem_map.1 hm
    have := groupK_inj (hw k (by simp)) (hw j (by simp [hj])) (by rw [he]) (by rw [he])
    subst this
    exact (List.nodup_cons.1 hn).1 hj
theorem isG_of {l : List I6} {ks : List (Int × Int)} {zs : List (Gr × Slc)} (hk : KsOk l ks) (hp : (zs.map (·.1)).Perm ((ks.filter (wholeK l)).map (groupK l))) (hs : SortedF cf_scan_Groups_c2 (zs.map grRow)) (hl : ∀ z ∈ zs, z.2.len = z.1.2.2.length) : IsG l (zs.map (·.1)) := by
  have hmem : ∀ x, x ∈ zs.map (·.1) ↔ ∃ k ∈ ks, wholeK l k = true ∧ groupK l k = x := fun x => by
    rw [hp.mem_iff, List.mem_map]
    constructor
    · rintro ⟨k, h1, h2⟩
      exact ⟨k, (List.mem_filter.1 h1).1, (List.mem_filter.1 h1).2, h2⟩
    · rintro ⟨k, h1, h2, h3⟩
      exact ⟨k, List.mem_filter.2 ⟨h1, h2⟩, h3⟩
  refine ⟨fun x => (hmem x).trans ⟨fun ⟨k, h1, h2⟩ => ⟨k, (hk.mem k).1 h1, h2⟩, fun ⟨k, h1, h2⟩ => ⟨k, (hk.mem k).2 h1, h2⟩⟩, ?_⟩
  have hnd : (zs.map (·.1)).Nodup := hp.nodup_iff.2 (nodup_whole (hk.nodup.filter _) fun k h => (List.mem_filter.1 h).2)
  rw [List.pairwise_iff_getElem]
  intro i j hi hj hij
  rw [List.length_map] at hi hj
  unfold SortedF at hs
  rw [List.pairwise_iff_getElem] at hs
  have h1 := hs i j (by simpa using hi) (by simpa using hj) hij
  rw [lt_c2] at h1
  simp only [List.getElem_map, grRow] at h1 ⊢
  rw [hl _ (List.getElem_mem hi), hl _ (List.getElem_mem hj)] at h1
  have hne : ¬ zs[i].1 = zs[j].1 := fun e => by
    have h2 := (List.pairwise_iff_getElem.1 hnd) i j (by simpa using hi) (by simpa using hj) hij
    simp only [List.getElem_map] at h2
    exact h2 e
  obtain ⟨k1, a1, a2, a3⟩ := (hmem zs[i].1).1 (List.mem_map_of_mem (List.getElem_mem hi))
  obtain ⟨k2, b1, b2, b3⟩ := (hmem zs[j].1).1 (List.mem_map_of_mem (List.getElem_mem hj))
  have hd : ¬ (zs[i].1.1 = zs[j].1.1 ∧ zs[i].1.2.2.length = zs[j].1.2.2.length) := fun ⟨e1, e2⟩ => by
    rw [← a3, ← b3] at e1 e2
    have := groupK_inj a2 b2 e1 e2
    subst this
    exact hne (a3.symm.trans b3)
  have h1 := of_decide_eq_false h1
  unfold ltG
  rw [decide_eq_true_eq]
  omega
theorem segs_len (zs : List (Gr × Slc)) : Ent (segsP zs) (pr (∀ z ∈ zs, z.2.len = z.1.2.2.length)) := fun o ho z hz => by
  have h := rsl_len _ _ _ o (segsP_get hz o ho)
  have h : (zv z.1.2.2).length = z.2.len * 1 := h
  simp [zv] at h
  exact h.symm
theorem scan_Groups_spec (s : Slc) (l : List I6) (gs : List Gr) (hg : IsG l gs) (hl : l.length ≤ 100000) : wps g (infosP s l) (scan_Groups s) (fun y => infosP s l * groupsO y gs) := by
  refine wps_post (scan_Groups_raw s l hl) fun y => ?_
  refine ex_ent fun ks => ?_
  rw [star_assoc]
  refine pr_ent fun hks => Ent.starr ?_
  unfold outP groupsO
  refine ex_ent fun zs => ?_
  rw [star_assoc]
  refine pr_ent fun hz => ?_
  refine ent_ex zs ?_
  rw [star_assoc]
  refine fun o ho => ?_
  have hlen : ∀ z ∈ zs, z.2.len = z.1.2.2.length := segs_len zs o (ent_left _ _ o ho)
  exact ent_pr (IsG.one (isG_of hks hz.1 hz.2 hlen) hg) o ho
end Go.Proofs.Ytldmeimebebllaa
namespace Go.Proofs.Ytldmeimebebllaa
open Go.Mo
set_option linter.unusedVariables false
variable {g : Fr} {cv : CV}
theorem grp_perm {l l' : List I6} (h : l'.Perm l) (k : Int × Int) : (grp l' k).Perm (grp l k) := h.filter _
theorem wholeC_perm {l l' : List I6} (h : l'.Perm l) (c : Int) : wholeC l' c = wholeC l c := by
  unfold wholeC
  congr 1
  rw [Bool.eq_iff_iff]
  simp only [List.all_eq_true, beq_iff_eq, cnt_perm h]
theorem wholeC_cnt {l : List I6} {c : Int} (h : wholeC l c = true) {i : Nat} (hi : i < c.toNat) : cnt l i = 1 := by
  unfold wholeC at h
  simp only [Bool.and_eq_true, List.all_eq_true, beq_iff_eq, List.mem_range] at h
  exact h.2 i hi
theorem pickI_perm {l l' : List I6} (h : l'.Perm l) {i : Nat} (hc : cnt l i = 1) : pickI l' i = pickI l i := by
  obtain ⟨x, hx, hi⟩ := List.countP_pos_iff.1 (show 0 < cnt l i by omega)
  have hi := of_decide_eq_true hi
  rw [pickI_of (List.Perm.refl l) hc hx hi]
  exact pickI_of h.symm ((cnt_perm h i).trans hc) hx hi
theorem groupK_perm {l l' : List I6} (h : l'.Perm l) {k : Int × Int} (hw : wholeK l k = true) : groupK l' k = groupK l k := by
  have hp := wholeC_pos hw
  have e : ∀ i, i < k.2.toNat → pickI (grp l' k) i = pickI (grp l k) i := fun i hi => pickI_perm (grp_perm h k) (wholeC_cnt hw hi)
  unfold groupK
  rw [e (k.2.toNat - 1) (by omega)]
  congr 2
  exact List.map_congr_left fun i hi => by rw [e i (List.mem_range.1 hi)]
theorem MemG.perm {l l' : List I6} (h : l'.Perm l) {x : Gr} (hm : MemG l x) : MemG l' x := by
  obtain ⟨k, ⟨y, hy, hk⟩, hw, hx⟩ := hm
  refine ⟨k, ⟨y, h.mem_iff.2 hy, hk⟩, ?_, (groupK_perm h hw).trans hx⟩
  exact (wholeC_perm (grp_perm h k) _).trans hw
theorem IsG.perm {l l' : List I6} {gs : List Gr} (h : l'.Perm l) (hg : IsG l gs) : IsG l' gs := ⟨fun x => (hg.mem x).trans ⟨fun hm => hm.perm h, fun hm => hm.perm h.symm⟩, hg.srt⟩
abbrev C3 := List Int × Nat × Nat
def chkE (c : C3) (k : Nat) : I6 := (c.1.getD k 0, ((c.2.1 + k : Nat) : Int), (c.1.length : Int), (k : Int), 0, if k + 1 = c.1.length then (c.2.2 : Int) else 0)
def chk (c : C3) : List I6 := (List.range c.1.length).map (chkE c)
def gOf (c : C3) : Gr := ((c.2.1 : Int), (c.2.2 : Int), c.1)
def keyC (c : C3) : Int × Int := ((c.2.1 : Int), (c.1.length : Int))
theorem chkE_ok (c : C3) (k : Nat) : I6.ok (chkE c k) = true := by
  unfold I6.ok
  rw [decide_eq_true_eq]
  simp only [I6.idx, I6.seq, chkE]
  omega
theorem chkE_key (c : C3) (k : Nat) : I6.key (chkE c k) = keyC c := by
  simp only [I6.key, I6.seq, I6.idx, I6.count, chkE, keyC, Prod.mk.injEq, and_true]
  omega
theorem chk_mem {c : C3} {x : I6} (h : x ∈ chk c) : I6.ok x = true ∧ I6.key x = keyC c := by
  obtain ⟨k, _, rfl⟩ := List.mem_map.1 h
  exact ⟨chkE_ok c k, chkE_key c k⟩
theorem cnt_range (c : C3) (i : Nat) : ∀ n, cnt ((List.range n).map (chkE c)) i = if i < n then 1 else 0
  | 0 => by simp [cnt]
  | n + 1 => by
    rw [List.range_succ, List.map_append, show cnt ((List.range n).map (chkE c) ++ [n].map (chkE c)) i = cnt ((List.range n).map (chkE c)) i + cnt [chkE c n] i from List.countP_append, cnt_range c i n]
    have : cnt [chkE c n] i = if n = i then 1 else 0 := by
      by_cases h : n = i
      · subst h; simp [cnt, I6.idx, chkE]
      · have : ¬ (n : Int) = (i : Int) := by omega
        simp [cnt, I6.idx, chkE, h, this]
    rw [this]
    by_cases h1 : i < n
    · rw [if_pos h1, if_neg (by omega), if_pos (by omega)]
    · by_cases h2 : n = i
      · rw [if_neg h1, if_pos h2, if_pos (by omega)]
      · rw [if_neg h1, if_neg h2, if_neg (by omega)]
theorem chk_whole {c : C3} (h : 1 ≤ c.1.length) : wholeC (chk c) (c.1.length : Int) = true := by
  unfold wholeC
  simp only [Bool.and_eq_true, decide_eq_true_eq, List.all_eq_true, List.mem_range, beq_iff_eq, Int.toNat_natCast]
  exact ⟨by omega, fun i hi => by rw [chk, cnt_range, if_pos hi]⟩
theorem chk_pick {c : C3} {i : Nat} (h : i < c.1.length) : pickI (chk c) i = chkE c i :=
  pickI_of (List.Perm.refl _) (by rw [chk, cnt_range, if_pos h]) (List.mem_map.2 ⟨i, List.mem_range.2 h, rfl⟩) rfl
structure Parts (ps : List (C3 × List I6)) : Prop where
  sub : ∀ p ∈ ps, ∀ x ∈ p.2, x ∈ chk p.1
  pos : ∀ p ∈ ps, 1 ≤ p.1.1.length
  rise : ps.Pairwise fun p q => p.1.2.1 + p.1.1.length ≤ q.1.2.1
theorem grp_app (a b : List I6) (k : Int × Int) : grp (a ++ b) k = grp a k ++ grp b k := List.filter_append ..
theorem grp_all {a : List I6} {k : Int × Int} (h : ∀ x ∈ a, I6.ok x = true ∧ I6.key x = k) : grp a k = a := by
  unfold grp
  rw [List.filter_eq_self]
  intro x hx
  simp [h x hx]
theorem grp_none {a : List I6} {k : Int × Int} (h : ∀ x ∈ a, I6.key x ≠ k) : grp a k = [] := by
  unfold grp
  rw [List.filter_eq_nil_iff]
  intro x hx
  simp [h x hx]
theorem Parts.tail {p : C3 × List I6} {ps : List (C3 × List I6)} (h : Parts (p :: ps)) : Parts ps := ⟨fun q hq => h.sub q (by simp [hq]), fun q hq => h.pos q (by simp [hq]), (List.pairwise_cons.1 h.rise).2⟩
theorem Parts.ne {p : C3 × List I6} {ps : List (C3 × List I6)} (h : Parts (p :: ps)) {q : C3 × List I6} (hq : q ∈ ps) : keyC p.1 ≠ keyC q.1 := fun e => by
  have a := (List.pairwise_cons.1 h.rise).1 q hq
  have b := h.pos p (by simp)
  have e1 : ((p.1.2.1 : Nat) : Int) = ((q.1.2.1 : Nat) : Int) := congrArg Prod.fst e
  omega
theorem Parts.grp : ∀ {ps : List (C3 × List I6)}, Parts ps → ∀ p ∈ ps, grp (ps.flatMap (·.2)) (keyC p.1) = p.2
  | q :: ps, h, p, hp => by
    rw [List.flatMap_cons, grp_app]
    rcases List.mem_cons.1 hp with rfl | hp
    · rw [grp_all fun x hx => chk_mem (h.sub p (by simp) x hx), grp_none, List.append_nil]
      intro x hx
      obtain ⟨q, hq, hx⟩ := List.mem_flatMap.1 hx
      rw [(chk_mem (h.sub q (by simp [hq]) x hx)).2]
      exact (h.ne hq).symm
    · rw [h.tail.grp p hp, grp_none, List.nil_append]
      intro x hx
      rw [(chk_mem (h.sub q (by simp) x hx)).2]
      exact h.ne hp
theorem groupK_chk {l : List I6} {c : C3} (h : Go.Proofs.Ytldmeimebebllaa.grp l (keyC c) = chk c) (h1 : 1 ≤ c.1.length) : groupK l (keyC c) = gOf c := by
  unfold groupK gOf
  rw [h]
  simp only [keyC, Int.toNat_natCast]
  rw [chk_pick (by omega)]
  have e1 : I6.root (chkE c (c.1.length - 1)) = (c.2.2 : Int) := by
    simp only [chkE, I6.root]
    rw [if_pos (by omega)]
  have e2 : (List.range c.1.length).map (fun i => I6.seg (pickI (chk c) i)) = c.1 := by
    rw [List.map_congr_left (g := fun i => c.1.getD i 0) fun i hi => by rw [chk_pick (List.mem_range.1 hi)]; rfl]
    apply List.ext_getElem?
    intro i
    rw [List.getElem?_map]
    by_cases hi : i < c.1.length
    · rw [List.getElem?_range hi, List.getElem?_eq_getElem hi]; simp [List.getElem?_eq_getElem hi]
    · rw [List.getElem?_eq_none (by simpa using hi), List.getElem?_eq_none (by omega)]; rfl
  rw [e1, e2]
theorem Parts.isG {ps : List (C3 × List I6)} (h : Parts ps) (hw : ∀ p ∈ ps, p.2 = chk p.1 ∨ wholeC p.2 p.1.1.length = false) : IsG (ps.flatMap (·.2)) ((ps.filter fun p => wholeC p.2 p.1.1.length).map fun p => gOf p.1) := by
  have hfull : ∀ p ∈ ps, wholeC p.2 p.1.1.length = true → p.2 = chk p.1 := fun p hp h1 => (hw p hp).resolve_right (by simp [h1])
  refine ⟨fun x => ?_, ?_⟩
  · rw [List.mem_map]
    constructor
    · rintro ⟨p, hp, rfl⟩
      obtain ⟨hp, hpw⟩ := List.mem_filter.1 hp
      have hpw : wholeC p.2 p.1.1.length = true := hpw
      have he := hfull p hp hpw
      have hg := h.grp p hp
      refine ⟨keyC p.1, ⟨chkE p.1 0, List.mem_flatMap.2 ⟨p, hp, ?_⟩, chkE_ok _ _, chkE_key _ _⟩, ?_, groupK_chk (hg.trans he) (h.pos p hp)⟩
      · rw [he]; exact List.mem_map.2 ⟨0, List.mem_range.2 (h.pos p hp), rfl⟩
      · unfold wholeK
        rw [hg]; exact hpw
    · rintro ⟨k, ⟨y, hy, _, hk⟩, hwk, rfl⟩
      obtain ⟨p, hp, hyp⟩ := List.mem_flatMap.1 hy
      rw [(chk_mem (h.sub p hp y hyp)).2] at hk
      subst hk
      have hg := h.grp p hp
      unfold wholeK at hwk
      rw [hg] at hwk
      have he := hfull p hp hwk
      exact ⟨p, List.mem_filter.2 ⟨hp, hwk⟩, (groupK_chk (hg.trans he) (h.pos p hp)).symm⟩
  · rw [List.pairwise_map]
    refine (h.rise.filter _).imp_of_mem fun {p q} hp hq hlt => ?_
    have a := h.pos p (List.mem_filter.1 hp).1
    unfold ltG gOf
    rw [decide_eq_true_eq]
    dsimp only
    omega
structure Lay (cs : List C3) : Prop where
  pos : ∀ c ∈ cs, 1 ≤ c.1.length
  rise : cs.Pairwise fun c d => c.2.1 + c.1.length ≤ d.2.1
theorem Lay.parts {cs : List C3} (h : Lay cs) : Parts (cs.map fun c => (c, chk c)) := ⟨fun p hp => by
  obtain ⟨c, _, rfl⟩ := List.mem_map.1 hp
  exact fun x hx => hx, fun p hp => by
  obtain ⟨c, hc, rfl⟩ := List.mem_map.1 hp
  exact h.pos c hc, by rw [List.pairwise_map]; exact h.rise⟩
theorem filter_chk : ∀ {cs : List C3}, (∀ c ∈ cs, 1 ≤ c.1.length) → ((cs.map fun c => (c, chk c)).filter fun p => wholeC p.2 p.1.1.length).map (fun p => gOf p.1) = cs.map gOf
  | [], _ => rfl
  | c :: cs, h => by
    rw [List.map_cons, List.filter_cons, if_pos (chk_whole (h c (by simp))), List.map_cons, List.map_cons, filter_chk fun d hd => h d (by simp [hd])]
theorem Lay.isG {cs : List C3} (h : Lay cs) : IsG (cs.flatMap chk) (cs.map gOf) := by
  have := h.parts.isG fun p hp => by
    obtain ⟨c, _, rfl⟩ := List.mem_map.1 hp
    exact .inl rfl
  rw [filter_chk h.pos, List.flatMap_map] at this
  exact this
theorem erase_not {c : C3} {k : Nat} (hk : k < c.1.length) : wholeC ((chk c).eraseIdx k) c.1.length = false := by
  apply Bool.eq_false_iff.2
  intro h
  have := wholeC_cnt h (i := k) (by simpa using hk)
  obtain ⟨x, hx, hi⟩ := List.countP_pos_iff.1 (show 0 < cnt ((chk c).eraseIdx k) k by omega)
  have hi := of_decide_eq_true hi
  obtain ⟨j, hj, hg⟩ := List.mem_eraseIdx_iff_getElem?.1 hx
  unfold chk at hg
  rw [List.getElem?_map] at hg
  obtain ⟨m, hm, rfl⟩ := Option.map_eq_some_iff.1 hg
  have hjm : j = m := by
    obtain ⟨h1, h2⟩ := List.getElem?_eq_some_iff.1 hm
    simpa using h2
  simp only [I6.idx, chkE] at hi
  omega
theorem Lay.drop {us bs : List C3} {c : C3} (h : Lay (us ++ c :: bs)) {k : Nat} (hk : k < c.1.length) : IsG (us.flatMap chk ++ ((chk c).eraseIdx k ++ bs.flatMap chk)) (us.map gOf ++ bs.map gOf) := by
  have hp : Parts (us.map (fun c => (c, chk c)) ++ (c, (chk c).eraseIdx k) :: bs.map fun c => (c, chk c)) := by
    have h0 := h.parts
    rw [List.map_append, List.map_cons] at h0
    refine ⟨fun p hp => ?_, fun p hp => ?_, ?_⟩
    · rcases List.mem_append.1 hp with hp | hp
      · exact h0.sub p (by simp [hp])
      · rcases List.mem_cons.1 hp with rfl | hp
        · exact fun x hx => List.mem_of_mem_eraseIdx hx
        · exact h0.sub p (by simp [hp])
    · rcases List.mem_append.1 hp with hp | hp
      · exact h0.pos p (by simp [hp])
      · rcases List.mem_cons.1 hp with rfl | hp
        · exact h.pos c (by simp)
        · exact h0.pos p (by simp [hp])
    · have hr := h0.rise
      rw [List.pairwise_append, List.pairwise_cons] at hr ⊢
      refine ⟨hr.1, ⟨hr.2.1.1, hr.2.1.2⟩, fun p hp q hq => ?_⟩
      rcases List.mem_cons.1 hq with rfl | hq
      · exact hr.2.2 p hp (c, chk c) (by simp)
      · exact hr.2.2 p hp q (by simp [hq])
  have := hp.isG fun p hp => by
    rcases List.mem_append.1 hp with hp | hp
    · obtain ⟨d, _, rfl⟩ := List.mem_map.1 hp; exact .inl rfl
    · rcases List.mem_cons.1 hp with rfl | hp
      · exact .inr (erase_not hk)
      · obtain ⟨d, _, rfl⟩ := List.mem_map.1 hp; exact .inl rfl
  rw [List.filter_append, List.filter_cons, if_neg (by simp [erase_not hk]), List.map_append, filter_chk fun d hd => h.pos d (by simp [hd]), filter_chk fun d hd => h.pos d (by simp [hd]), List.flatMap_append, List.flatMap_cons, List.flatMap_map, List.flatMap_map] at this
  exact this
end Go.Proofs.Ytldmeimebebllaa
namespace Go.Proofs.Ytldmeimebebllaa
open Go.Mo
set_option linter.unusedVariables false
variable {g : Fr} {cv : CV}
def isC (R : Rk) (i : Nat) : Bool := ((R.dk (i / R.ns)).cached ((i % R.ns : Nat) : Int)).isSome
def rank (R : Rk) (i : Nat) : Nat := ((List.range i).filter (isC R)).length
def keepB (ks : List Int) (n : Nat) : Bool := if ks.length = 0 then false else bAnd .i64 (ks.getD (n % ks.length) 0) 1 == 1
def Dk.restored (R : Rk) (ks : List Int) (j : Nat) : Dk := ((R.dk j).flushed fun k => keepB ks (rank R (j * R.ns + k.toNat)) && !(R.dk j).failed).clean
def Rk.restore (R : Rk) (ks : List Int) : Rk := { R with off := false, count := -1, dk := fun j => Dk.restored R ks j }
end Go.Proofs.Ytldmeimebebllaa
namespace Go.Proofs.Ytldmeimebebllaa
open Go.Mo
set_option linter.unusedVariables false
variable {g : Fr} {cv : CV}
def flushL : List Int → Rk → Rk × Int
  | [], R => (R, 0)
  | d :: ds, R => if R.gate d 0 64 = 12 then (R.flush d, 12) else flushL ds (R.flush d)
theorem bank_Flush_spec (hcv : DisksOk cv) (bb rb : Nat) (q m : G3) (hq : q.1 ≤ 16) (R : Rk) (ds : Slc) (ps : List Nat) :
    wps g (bnk bb rb q m * rackP rb R ds ps) (bank_Bank_Flush cv (ptr bb)) (fun e => pr (e = (flushL (disksL q m) R).2) * bnk bb rb q m * rackP rb (flushL (disksL q m) R).1 ds ps) := by
  unfold bank_Bank_Flush
  repeat first | (with_reducible refine wps_alloc fun _ => ?_) | (refine wps_ld _ (by rfl) ?_)
  rename_i x1 x2
  refine wps_rangeF (F := emp)
    (fun i => ex fun R' : Rk => pr (flushL (disksL q m) R = flushL ((disksL q m).drop i) R') * rackP rb R' ds ps * pc x1 [.pointer (ptr bb)] * pc x2 [.int .i64 0])
    (fun j => match j with | .ret => ex fun R' : Rk => pr (flushL (disksL q m) R = (R', 12)) * rackP rb R' ds ps * pc x2 [.int .i64 12] | .exit _ => pr False)
    (fun i d t => pr (t = d) * (bnk bb rb q m * ex fun R' : Rk => pr (flushL (disksL q m) R = flushL ((disksL q m).drop i) R') * rackP rb R' ds ps * pc x1 [.pointer (ptr bb)] * pc x2 [.int .i64 0]))
    (disks_iter hcv bb rb q m hq) ?_ ?_ ?_ ?_ ?_ ?_
  · rw [emp_star]
    refine Ent.trans ?_ (Ent.starr (ent_ex R (Ent.refl _)))
    simp only [← star_assoc]
    exact ent_pickC (by rfl) (ent_pickC (by rfl) (ent_pick (ent_prx rfl ent_drop)))
  · intro i d hd g
    exact wps_pure (ent_prr rfl (Ent.refl _))
  · intro i d hd t g
    refine wps_pr fun ht => ?_
    subst ht
    refine wps_exP fun R' => ?_
    simp only [← star_assoc]
    refine wps_prP fun hR => ?_
    rw [drop_cons hd, flushL] at hR
    repeat first | (with_reducible refine wps_nil ?_) | (refine wps_ld _ (by rfl) ?_)
    refine wps_callH (fun _ => device_Rack_Flush_spec rb R' ds ps t) fun e => ?_
    simp only [← star_assoc]
    refine wps_prP fun he => ?_
    subst he
    refine wps_ite (fun h12 => ?_) (fun h12 => ?_)
    · have h12' : R'.gate t 0 64 = 12 := by simpa using h12
      rw [if_pos h12'] at hR
      repeat refine wps_st (by simp) ?_
      refine wps_pure ?_
      refine Ent.trans ?_ (Ent.starr (ent_ex (R'.flush t) (Ent.refl _)))
      simp only [← star_assoc]
      exact ent_pickC (by rw [h12']; rfl) (ent_pick (ent_prx hR ent_drop))
    · have h12' : ¬ R'.gate t 0 64 = 12 := by simpa using h12
      rw [if_neg h12'] at hR
      refine wps_pure ?_
      refine Ent.trans ?_ (Ent.starr (ent_ex (R'.flush t) (Ent.refl _)))
      simp only [← star_assoc]
      exact ent_pick (ent_pick (ent_pick (ent_prx hR ent_drop)))
  · intro D
    refine wps_exP fun R' => ?_
    simp only [← star_assoc]
    refine wps_prP fun hR => ?_
    rw [List.drop_length, flushL] at hR
    repeat refine wps_st (by simp) ?_
    refine wps_take ?_
    repeat refine wps_ld _ (by rfl) ?_
    refine wps_pure ?_
    rw [hR]
    exact ent_pick (ent_pick (ent_prq rfl))
  · intro D
    refine wps_exP fun R' => ?_
    simp only [← star_assoc]
    refine wps_prP fun hR => ?_
    refine wps_take ?_
    repeat refine wps_ld _ (by rfl) ?_
    refine wps_pure ?_
    rw [hR]
    exact ent_pick (ent_pick (ent_prq rfl))
  · intro D id
    exact wps_false (fun o ho => by
      have := ent_right _ _ o (ent_left _ _ o ho)
      exact ent_right _ _ o this)
theorem bank_Read_spec (bb rb : Nat) (q m : G3) (R : Rk) (ds : Slc) (ps : List Nat) (slot s : Int) :
    wps g (bnk bb rb q m * rackP rb R ds ps) (bank_Bank_Read (ptr bb) slot s) (fun x =>
      pr (x.2 = if (slotV q m slot).2 then R.rdErr (slotV q m slot).1 s else 11) * bnk bb rb q m * rackP rb R ds ps * own 1 x.1 (bv (if (slotV q m slot).2 then R.rd (slotV q m slot).1 s else []))) := by
  unfold bank_Bank_Read
  refine wps_valH (fun _ => bank_disk_val bb rb q m slot) ?_
  by_cases hv : (slotV q m slot).2 = true
  · simp only [hv, if_true]
    refine wps_ite (fun h => absurd h (by simp)) (fun _ => ?_)
    repeat first | (with_reducible refine wps_nil ?_) | (refine wps_ld _ (by rfl) ?_)
    refine wps_callH (fun _ => device_Rack_Read_spec rb R ds ps (slotV q m slot).1 s) fun x => wps_pure ?_
    simp only [← star_assoc]
    exact ent_pick (ent_pick (ent_pick ent_drop))
  · simp only [hv, if_false, Bool.false_eq_true]
    refine wps_ite (fun _ => wps_pure ?_) (fun h => absurd rfl h)
    exact ent_own0 (ent_pick (ent_pick (ent_prq rfl)))
def Rk.doom (R : Rk) (k c : Int) : Rk := if k < 0 ∨ k ≥ R.n then R else R.setD k.toNat { R.dk k.toNat with count := maxI c (-1) }
theorem device_Rack_Doom_spec (rb : Nat) (R : Rk) (ds : Slc) (ps : List Nat) (k c : Int) :
    wps g (rackP rb R ds ps) (device_Rack_Doom (ptr rb) k c) (fun e => pr (e = if k < 0 ∨ k ≥ R.n then 11 else 0) * rackP rb (R.doom k c) ds ps) := by
  unfold device_Rack_Doom
  have hp : Ent (rackP rb R ds ps) (pr (ps.length = R.n ∧ ds.len = R.n ∧ R.n ≤ 17 ∧ R.ns ≤ 4096)) := Ent.trans (ent_left _ _) (Ent.trans (ent_left _ _) (ent_left _ _))
  refine wps_fact hp fun ⟨h1, h2, h17, hns⟩ => ?_
  by_cases hk : k < 0 ∨ k ≥ R.n
  · rw [if_pos hk, Rk.doom, if_pos hk]
    refine wps_val (v := true) ?_ (wps_ite (fun _ => wps_pure (ent_prr rfl (Ent.refl _))) (fun h => absurd rfl h))
    unfold rackP
    apply val_eq
    · repeat first | (with_reducible refine wps_nil ?_) | (refine wps_ld _ (by rfl) ?_) | ((with_reducible apply val_ite); rotate_left; refine fun (_ : ¬ _) => ?_; rotate_right; refine fun (_ : _ = true) => ?_) | (with_reducible exact wps_pure (ent_val rfl))
    · rw [h2]
      by_cases h : k < 0
      · simp [h]
      · have : k ≥ R.n := by omega
        simp [h, this]
  · rw [if_neg hk, Rk.doom, if_neg hk]
    have hlt : k.toNat < R.n := by omega
    refine wps_val (v := false) ?_ (wps_ite (fun h => absurd h (by simp)) (fun _ => ?_))
    · unfold rackP
      apply val_eq
      · repeat first | (with_reducible refine wps_nil ?_) | (refine wps_ld _ (by rfl) ?_) | ((with_reducible apply val_ite); rotate_left; refine fun (_ : ¬ _) => ?_; rotate_right; refine fun (_ : _ = true) => ?_) | (with_reducible exact wps_pure (ent_val rfl))
      · rw [h2]
        have a : ¬ k < 0 := by omega
        have b : ¬ k ≥ R.n := by omega
        simp [a]; omega
    · rw [← rackP_set _ hlt, rackP_focus rb R ds ps hlt]
      repeat first | (with_reducible refine wps_nil ?_) | (refine wps_ld _ (by rfl) ?_)
      refine wps_rdS k.toNat (ptr (ps.getD k.toNat 0)) (by omega) (pv_get (by omega)) ?_
      simp only [dskAt, dskX]
      refine wps_exP fun ls => wps_exP fun mb => wps_exP fun sl => wps_exP fun sc => ?_
      simp only [← star_assoc]
      refine wps_prP fun hd => ?_
      repeat first | (with_reducible refine wps_nil ?_) | (refine wps_st (by simp) ?_)
      refine wps_pure ?_
      refine ent_exr ls ?_
      refine ent_exr mb ?_
      refine ent_exr sl ?_
      refine ent_exr sc ?_
      simp only [← star_assoc]
      exact ent_pickC (by rfl) (ent_pick (ent_pick (ent_pick (ent_pick (ent_prx hd (ent_pick (ent_pick (ent_pick (ent_pick (ent_prq trivial))))))))))
end Go.Proofs.Ytldmeimebebllaa
namespace Go.Proofs.Ytldmeimebebllaa
open Go.Mo
set_option linter.unusedVariables false
structure Settled (R : Rk) (f : Nat → Bool) : Prop where
  off : R.off = false
  count : R.count = -1
  failed : ∀ j, (R.dk j).failed = f j
  counts : ∀ j, (R.dk j).count = -1
theorem tickD {D : Dk} (h : D.count = -1) : D.tick = D := by
  obtain ⟨l, c, fl, k⟩ := D
  simp only at h
  subst h
  have hm : maxI (w64 (-1 - 1)) (-1) = -1 := by rw [w64m2]; rfl
  simp only [Dk.tick, hm]
  cases fl <;> rfl
theorem Settled.tick {R : Rk} {f : Nat → Bool} (h : Settled R f) : R.ticked = R := by
  have hdk : (fun j => (R.dk j).tick) = R.dk := by
    funext j; exact tickD (h.counts j)
  have hm : maxI (w64 (R.count - 1)) (-1) = R.count := by rw [h.count, w64m2]; rfl
  have hc : ¬ R.count = 0 := by rw [h.count]; omega
  simp only [Rk.ticked, if_neg hc, hdk, hm]
theorem Settled.gate {R : Rk} {f : Nat → Bool} (h : Settled R f) {k s : Int} (hk : 0 ≤ k ∧ k < R.n) (hs : 0 ≤ s ∧ s < R.ns) : R.gate k s 64 = if f k.toNat then 13 else 0 := by
  unfold Rk.gate
  have hr : ¬ (k < 0 ∨ k ≥ R.n ∨ s < 0 ∨ s ≥ R.ns) := by omega
  rw [if_neg (by simp [h.off]), if_neg hr, if_neg (by omega), if_neg (by rw [h.count]; omega), h.tick, h.failed]
theorem Settled.setD {R : Rk} {f : Nat → Bool} (h : Settled R f) {k : Nat} {D : Dk} (hf : D.failed = f k) (hc : D.count = -1) : Settled (R.setD k D) f := by
  refine ⟨h.off, h.count, fun j => ?_, fun j => ?_⟩
  · simp only [Rk.setD]; split
    · rename_i e; rw [e]; exact hf
    · exact h.failed j
  · simp only [Rk.setD]; split
    · exact hc
    · exact h.counts j
theorem gated_in {R : Rk} (ho : R.off = false) {k s : Int} (hk : 0 ≤ k ∧ k < R.n) (hs : 0 ≤ s ∧ s < R.ns) : R.gated k s 64 = R.ticked := by
  rw [Rk.gated, if_neg]
  rintro (h | h | h)
  · rw [ho] at h; cases h
  · omega
  · exact h rfl
theorem Settled.flush {R R1 : Rk} {f : Nat → Bool} {k : Int} (h : Settled R1 f) (hg : R.gated k 0 64 = R1) : Settled (R.flush k) f := by
  unfold Rk.flush
  rw [hg]
  split
  · exact h.setD (h.failed _) (h.counts _)
  · exact h
theorem flush_n {R : Rk} (k : Int) : (R.flush k).n = R.n ∧ (R.flush k).ns = R.ns := by
  have hg : (R.gated k 0 64).n = R.n ∧ (R.gated k 0 64).ns = R.ns := by
    unfold Rk.gated Rk.ticked
    split
    · exact ⟨rfl, rfl⟩
    · split <;> exact ⟨rfl, rfl⟩
  unfold Rk.flush
  split
  · exact hg
  · exact hg
theorem Settled.flushL {f : Nat → Bool} : ∀ {xs : List Int} {R : Rk}, Settled R f → (∀ d ∈ xs, 0 ≤ d ∧ d < R.n) → 0 < R.ns →
    (flushL xs R).2 = 0 ∧ Settled (flushL xs R).1 f ∧ (flushL xs R).1.n = R.n ∧ (flushL xs R).1.ns = R.ns
  | [], R, h, _, _ => ⟨rfl, h, rfl, rfl⟩
  | d :: xs, R, h, hx, hs => by
    have hd := hx d (by simp)
    have hg := h.gate hd (s := 0) (by omega)
    have h12 : ¬ R.gate d 0 64 = 12 := by rw [hg]; split <;> omega
    simp only [Proofs.Ytldmeimebebllaa.flushL, if_neg h12]
    have hf := h.flush (R := R) (k := d) (by rw [gated_in h.off hd (by omega), h.tick])
    have hn := flush_n (R := R) d
    have ih := Settled.flushL (xs := xs) hf (by rw [hn.1]; exact fun d' hd' => hx d' (by simp [hd'])) (by rw [hn.2]; exact hs)
    rw [hn.1, hn.2] at ih
    exact ih
structure Armed (R : Rk) (f : Nat → Bool) : Prop where
  off : R.off = false
  count : R.count = -1
  failed : ∀ j, (R.dk j).failed = false
  counts : ∀ j, (R.dk j).count = if f j then 0 else -1
theorem Armed.tick {R : Rk} {f : Nat → Bool} (h : Armed R f) : Settled R.ticked f := by
  have hc : ¬ R.count = 0 := by rw [h.count]; omega
  have hm : maxI (w64 (R.count - 1)) (-1) = -1 := by rw [h.count, w64m2]; rfl
  simp only [Rk.ticked, if_neg hc, hm]
  refine ⟨h.off, rfl, fun j => ?_, fun j => ?_⟩
  · simp only [h.failed, h.counts]
    cases f j <;> rfl
  · simp only [h.counts]
    have e1 : w64 (-1 - 1) = -2 := w64m2
    have e2 : w64 (0 - 1) = -1 := w64_id (by omega) (by omega)
    cases f j
    · show maxI (w64 (-1 - 1)) (-1) = -1
      rw [e1]; rfl
    · show maxI (w64 (0 - 1)) (-1) = -1
      rw [e2]; rfl
theorem Armed.flushL {f : Nat → Bool} {d : Int} {xs : List Int} {R : Rk} (h : Armed R f) (hx : ∀ d' ∈ d :: xs, 0 ≤ d' ∧ d' < R.n) (hs : 0 < R.ns) :
    (flushL (d :: xs) R).2 = 0 ∧ Settled (flushL (d :: xs) R).1 f ∧ (flushL (d :: xs) R).1.n = R.n ∧ (flushL (d :: xs) R).1.ns = R.ns := by
  have hd := hx d (by simp)
  have hgd := gated_in h.off hd (s := 0) (by omega)
  have h12 : ¬ R.gate d 0 64 = 12 := by
    unfold Rk.gate
    have hr : ¬ (d < 0 ∨ d ≥ R.n ∨ (0 : Int) < 0 ∨ (0 : Int) ≥ R.ns) := by omega
    rw [if_neg (by simp [h.off]), if_neg hr, if_neg (by omega), if_neg (by rw [h.count]; omega)]
    split <;> omega
  simp only [Proofs.Ytldmeimebebllaa.flushL, if_neg h12]
  have hf := h.tick.flush (R := R) (k := d) hgd
  have hn := flush_n (R := R) d
  have ih := Settled.flushL (xs := xs) hf (by rw [hn.1]; exact fun d' hd' => hx d' (by simp [hd'])) (by rw [hn.2]; exact hs)
  rw [hn.1, hn.2] at ih
  exact ih
end Go.Proofs.Ytldmeimebebllaa
namespace Go.Proofs.Ytldmeimebebllaa
open Go.Mo
set_option linter.unusedVariables false
variable {g : Fr} {cv : CV}
theorem ref00_CopyBytes_spec {H : HP} {s : Slc} {b : List Int} (hx : Ent H (byt s b)) (hb : b.length ≤ 1099511627776) : wps g H (ref00_CopyBytes s) (fun s' => H * own 1 s' (bv b)) := by
  unfold ref00_CopyBytes
  refine wps_fact (len_of hx) fun hl => ?_
  repeat with_reducible refine wps_alloc fun _ => ?_
  rename_i c
  refine wps_swap (A := pc c []) (B := own 1 ⟨some ⟨c, 0, none⟩, 0, 0⟩ []) (pc_own (n := 0) (z := 1) rfl) ?_
  refine wps_app 1 (bv b) rfl (by decide) (Ent.trans (ent_left _ _) hx) (bv_one b) (by (try dsimp only); omega) fun s' hs' => ?_
  exact wps_pure (Ent.of_eq (by simp))
structure Rk.cok (R : Rk) : Prop where
  pow : -1 ≤ R.count ∧ R.count < 9223372036854775808
  dks : ∀ j, -1 ≤ (R.dk j).count ∧ (R.dk j).count < 9223372036854775808
structure RQ (R : Rk) (l1 l2 l3 l4 : Slc) (sl cl : List Slc) (cs : List Int) : Prop where
  hsl : sl.length = R.n * R.ns
  hcl : cl.length = R.n * R.ns
  hcs : cs.length = R.n
  n17 : R.n ≤ 17
  ns4 : R.ns ≤ 4096
  hl1 : l1.len = R.n * R.ns
  hl2 : l2.len = R.n * R.ns
  hl3 : l3.len = R.n
  hl4 : l4.len = R.n
  ok : ∀ j, j < R.n → (R.dk j).ok R.ns
  cnt : ∀ j, j < R.n → (R.dk j).failed = false → cs[j]? = some (R.dk j).count
  cok : R.cok
def refX4 (mb : Nat) (R : Rk) (l1 l2 l3 l4 : Slc) (sl cl : List Slc) (cs : List Int) : HP :=
  pr (RQ R l1 l2 l3 l4 sl cl cs) * seqp sl (rlast R) * seqp cl (rcach R) * own 1 l1 (sl.map vS) * own 1 l2 (cl.map vS) * own 1 l3 (bads R) * own 1 l4 (zv cs) * pc mb [.int .i64 R.n, .int .i64 R.ns, vS l1, vS l2, vS l3, vS l4, .int .i64 R.count, .bool R.off]
def refQ (mb : Nat) (R : Rk) (l1 l2 l3 l4 : Slc) : HP := ex fun sl : List Slc => ex fun cl : List Slc => ex fun cs : List Int => refX4 mb R l1 l2 l3 l4 sl cl cs
theorem ok_new (s : Nat) : Dk.new.ok s := ⟨fun _ _ => by simp [Dk.new, noughts], fun _ _ h => by cases h⟩
theorem cok_new (n s : Nat) : (Rk.new n s).cok := ⟨by simp [Rk.new], fun j => by simp [Rk.new, Dk.new]⟩
theorem refQ_new {mb : Nat} {v : RefT} {n s : Nat} : Ent (refV v (Rk.new n s) * pc mb (refC v)) (refQ mb (Rk.new n s) v.2.2.1 v.2.2.2.1 v.2.2.2.2.1 v.2.2.2.2.2.1) := by
  unfold refV refX
  rw [ex_star]
  refine ex_ent fun sl => ?_
  rw [ex_star]
  refine ex_ent fun cl => ?_
  simp only [star_assoc]
  refine pr_ent fun h => ?_
  simp only [← star_assoc]
  refine ent_ex sl (ent_ex cl (ent_ex (List.replicate n (-1)) ?_))
  unfold refX4
  have h1 := h.n; have h2 := h.ns; have h3 := h.count; have h4 := h.off
  refine ent_pickC (by simp only [refC]; rw [h1, h2, h3, h4]) (ent_pickS ?_ ?_)
  · simp only [cnts, zv, List.map_replicate]
    rw [show (fun j => Value.int .i64 ((Rk.new n s).dk j).count) = fun _ => Value.int .i64 (-1) from rfl]
    rw [List.map_const']; simp [Rk.new]
  · repeat first | (with_reducible refine ent_pick ?_) | (refine ent_prq ?_)
    refine ⟨h.sl, h.cl, by simp [Rk.new], h.n17, h.ns4, h.l1, h.l2, h.l3, h.l4, fun j _ => ok_new _, fun j hj _ => ?_, cok_new n s⟩
    have : j < n := hj
    simp [Rk.new, Dk.new, this]
theorem flat_div {k s ns : Nat} (h : s < ns) : (k * ns + s) / ns = k ∧ (k * ns + s) % ns = s := by
  have h0 : 0 < ns := by omega
  rw [Nat.mul_comm]
  refine ⟨?_, ?_⟩
  · rw [Nat.mul_add_div h0, Nat.div_eq_of_lt h]; omega
  · rw [Nat.mul_add_mod, Nat.mod_eq_of_lt h]
theorem flat_lt {k s n ns : Nat} (hk : k < n) (hs : s < ns) : k * ns + s < n * ns := by
  have : (k + 1) * ns ≤ n * ns := Nat.mul_le_mul_right _ hk
  rw [Nat.add_mul] at this; omega
theorem flat_w {k s : Int} {n ns : Nat} (hk : 0 ≤ k ∧ k < n) (hs : 0 ≤ s ∧ s < ns) (h17 : n ≤ 17) (h4 : ns ≤ 4096) : w64 (w64 (k * (ns : Int)) + s) = ((k.toNat * ns + s.toNat : Nat) : Int) := by
  obtain ⟨K, rfl⟩ : ∃ K : Nat, k = (K : Int) := ⟨k.toNat, by omega⟩
  obtain ⟨S, rfl⟩ : ∃ S : Nat, s = (S : Int) := ⟨s.toNat, by omega⟩
  have h1 : K * ns ≤ 17 * 4096 := Nat.mul_le_mul (by omega) h4
  rw [← Int.natCast_mul, w64_id (n := ((K * ns : Nat) : Int)) (by omega) (by omega), w64_id] <;> (try simp only [Int.toNat_natCast]) <;> omega
def thereB (R : Rk) (k s : Int) : Bool := decide (0 ≤ k ∧ k < R.n ∧ 0 ≤ s ∧ s < R.ns)
theorem ref02_there_val (mb : Nat) (R : Rk) (l1 l2 l3 l4 : Slc) (k s : Int) : Val g (refQ mb R l1 l2 l3 l4) (ref02_Rack_there (ptr mb) k s) (thereB R k s) := by
  unfold ref02_Rack_there refQ refX4
  refine wps_ex fun sl => wps_ex fun cl => wps_ex fun cs => ?_
  refine wps_conseq (H' := pr (RQ R l1 l2 l3 l4 sl cl cs) * seqp sl (rlast R) * seqp cl (rcach R) * own 1 l1 (sl.map vS) * own 1 l2 (cl.map vS) * own 1 l3 (bads R) * own 1 l4 (zv cs) * pc mb [.int .i64 R.n, .int .i64 R.ns, vS l1, vS l2, vS l3, vS l4, .int .i64 R.count, .bool R.off]) (Q' := fun x => pr (x = thereB R k s) * (pr (RQ R l1 l2 l3 l4 sl cl cs) * seqp sl (rlast R) * seqp cl (rcach R) * own 1 l1 (sl.map vS) * own 1 l2 (cl.map vS) * own 1 l3 (bads R) * own 1 l4 (zv cs) * pc mb [.int .i64 R.n, .int .i64 R.ns, vS l1, vS l2, vS l3, vS l4, .int .i64 R.count, .bool R.off])) ?_ (Ent.refl _) (fun x => Ent.starr (ent_ex sl (ent_ex cl (ent_ex cs (Ent.refl _)))))
  apply val_eq
  · repeat first | (with_reducible refine wps_nil ?_) | (refine wps_ld _ (by rfl) ?_) | ((with_reducible apply wps_val); apply val_ite; rotate_left; refine fun (_ : ¬ _) => ?_; rotate_right; refine fun (_ : _ = true) => ?_) | (with_reducible exact wps_pure (ent_val rfl))
  · unfold thereB
    by_cases a : 0 ≤ k <;> by_cases b : k < (R.n : Int) <;> by_cases c : 0 ≤ s <;> by_cases d : s < (R.ns : Int) <;> simp [a, b, c, d]
theorem ref02_Failed_val (mb : Nat) (R : Rk) (l1 l2 l3 l4 : Slc) (k : Int) : Val g (refQ mb R l1 l2 l3 l4) (ref02_Rack_Failed (ptr mb) k) (R.failedB k) := by
  unfold ref02_Rack_Failed refQ refX4
  refine wps_ex fun sl => wps_ex fun cl => wps_ex fun cs => ?_
  refine wps_factP fun hq => ?_
  refine wps_conseq (H' := pr (RQ R l1 l2 l3 l4 sl cl cs) * seqp sl (rlast R) * seqp cl (rcach R) * own 1 l1 (sl.map vS) * own 1 l2 (cl.map vS) * own 1 l3 (bads R) * own 1 l4 (zv cs) * pc mb [.int .i64 R.n, .int .i64 R.ns, vS l1, vS l2, vS l3, vS l4, .int .i64 R.count, .bool R.off]) (Q' := fun x => pr (x = R.failedB k) * (pr (RQ R l1 l2 l3 l4 sl cl cs) * seqp sl (rlast R) * seqp cl (rcach R) * own 1 l1 (sl.map vS) * own 1 l2 (cl.map vS) * own 1 l3 (bads R) * own 1 l4 (zv cs) * pc mb [.int .i64 R.n, .int .i64 R.ns, vS l1, vS l2, vS l3, vS l4, .int .i64 R.count, .bool R.off])) ?_ (Ent.refl _) (fun x => Ent.starr (ent_ex sl (ent_ex cl (ent_ex cs (Ent.refl _)))))
  refine wps_val (v := decide (0 ≤ k ∧ k < R.n)) ?_ ?_
  · apply val_eq
    · repeat first | (with_reducible refine wps_nil ?_) | (refine wps_ld _ (by rfl) ?_) | ((with_reducible apply val_ite); rotate_left; refine fun (_ : ¬ _) => ?_; rotate_right; refine fun (_ : _ = true) => ?_) | (with_reducible exact wps_pure (ent_val rfl))
    · by_cases h : 0 ≤ k <;> simp [h]
  · by_cases hk : 0 ≤ k ∧ k < R.n
    · simp only [hk, and_self, decide_true, if_true, Rk.failedB, bindM_assoc]
      repeat first | (with_reducible refine wps_nil ?_) | (refine wps_ld _ (by rfl) ?_)
      refine wps_rdS k.toNat (R.dk k.toNat).failed (by omega) ?_ ?_
      · rw [bads, List.getElem?_map, List.getElem?_range (by omega)]; rfl
      · repeat first | (with_reducible refine wps_bindpure ?_) | (with_reducible exact wps_pure (ent_val rfl))
    · simp only [hk, decide_false, Rk.failedB, if_false, Bool.false_eq_true]
      repeat first | (with_reducible refine wps_bindpure ?_) | (with_reducible exact wps_pure (ent_val rfl))
end Go.Proofs.Ytldmeimebebllaa
namespace Go.Proofs.Ytldmeimebebllaa
open Go.Mo
set_option linter.unusedVariables false
variable {g : Fr} {cv : CV}
theorem there_true {R : Rk} {k s : Int} (h : thereB R k s = true) : (0 ≤ k ∧ k < R.n) ∧ (0 ≤ s ∧ s < R.ns) := by
  simp only [thereB, decide_eq_true_eq] at h; omega
theorem there_or {R : Rk} {k s : Int} : thereB R k s = true ↔ ¬ (k < 0 ∨ k ≥ R.n ∨ s < 0 ∨ s ≥ R.ns) := by
  simp only [thereB, decide_eq_true_eq]; omega
theorem RQ.at {R : Rk} {l1 l2 l3 l4 : Slc} {sl cl : List Slc} {cs : List Int} (h : RQ R l1 l2 l3 l4 sl cl cs) {k s : Int} (ht : thereB R k s = true) :
    ∃ i : Nat, i < R.n * R.ns ∧ i = k.toNat * R.ns + s.toNat ∧ w64 (w64 (k * (R.ns : Int)) + s) = (i : Int) ∧ rlast R i = (R.dk k.toNat).lasts s.toNat ∧ rcach R i = ((R.dk k.toNat).cached s).getD [] ∧ k.toNat < R.n ∧ s.toNat < R.ns := by
  obtain ⟨hk, hs⟩ := there_true ht
  have hd := flat_div (k := k.toNat) (s := s.toNat) (ns := R.ns) (by omega)
  refine ⟨k.toNat * R.ns + s.toNat, flat_lt (by omega) (by omega), rfl, flat_w hk hs h.n17 h.ns4, ?_, ?_, by omega, by omega⟩
  · rw [rlast, hd.1, hd.2]
  · rw [rcach, hd.1, hd.2, show ((s.toNat : Nat) : Int) = s by omega]
theorem ref02_Read_spec (mb : Nat) (R : Rk) (l1 l2 l3 l4 : Slc) (k s : Int) :
    wps g (refQ mb R l1 l2 l3 l4) (ref02_Rack_Read (ptr mb) k s) (fun x => pr (x.2 = R.rdErr k s) * refQ mb R l1 l2 l3 l4 * own 1 x.1 (bv (R.rd k s))) := by
  unfold ref02_Rack_Read
  have hoff : ∀ {α : Type} {K : Bool → M α} {Q : α → HP}, wps g (refQ mb R l1 l2 l3 l4) (K R.off) Q → wps g (refQ mb R l1 l2 l3 l4) (bindM (ld Value.bool ⟨mb, 7, none⟩) K) Q := by
    intro α K Q h
    refine wps_val (v := R.off) ?_ h
    show wps g _ (bindM (ld Value.bool ⟨mb, 7, none⟩) pureM) _
    unfold refQ refX4
    refine wps_ex fun sl => wps_ex fun cl => wps_ex fun cs => ?_
    repeat refine wps_ld _ (by rfl) ?_
    exact wps_pure (ent_prr rfl (ent_ex sl (ent_ex cl (ent_ex cs (Ent.refl _)))))
  repeat with_reducible refine wps_nil ?_
  refine hoff ?_
  by_cases ho : R.off = true
  · have he : R.rdErr k s = 12 := by simp [Rk.rdErr, ho]
    rw [if_pos ho]
    refine wps_pure ?_
    simp only [Rk.rd, he]
    exact ent_own0 (ent_prr (by simp) (Ent.refl _))
  rw [if_neg ho]
  refine wps_val (ref02_there_val mb R l1 l2 l3 l4 k s) ?_
  by_cases ht : thereB R k s = true
  · have hn := there_or.1 ht
    rw [ht]
    refine wps_ite (fun h => absurd h (by decide)) (fun _ => ?_)
    unfold refQ
    refine wps_exP fun sl => wps_exP fun cl => wps_exP fun cs => ?_
    unfold refX4
    simp only [← star_assoc]
    refine wps_factP fun hq => ?_
    obtain ⟨i, hi, _, hw, hl, hc, hk, hs⟩ := hq.at ht
    obtain ⟨hk2, hs2⟩ := there_true ht
    repeat first | (with_reducible refine wps_nil ?_) | (refine wps_ld _ (by rfl) ?_)
    refine wps_rdS k.toNat (R.dk k.toNat).failed (by omega) (by rw [bads, List.getElem?_map, List.getElem?_range hk]; rfl) ?_
    refine wps_ite (fun hf => wps_pure ?_) (fun hf => ?_)
    · have he : R.rdErr k s = 13 := by simp only [Rk.rdErr, if_neg ho, if_neg hn, if_pos hf]
      simp only [Rk.rd, he]
      refine ent_own0 (ent_exr sl (ent_exr cl (ent_exr cs ?_)))
      simp only [← star_assoc]
      repeat first | (with_reducible refine ent_pick ?_) | (refine ent_prq ?_)
      all_goals first | exact hq | rfl | trivial
    · have he : R.rdErr k s = 0 := by simp only [Rk.rdErr, if_neg ho, if_neg hn, if_neg hf]
      simp only [Rk.rd, he, if_true]
      repeat first | (with_reducible refine wps_nil ?_) | (refine wps_ld _ (by rfl) ?_)
      rw [hw]
      have hil : i < sl.length := by rw [hq.hsl]; exact hi
      have hic : i < cl.length := by rw [hq.hcl]; exact hi
      have close : ∀ s', Ent (emp * pr (RQ R l1 l2 l3 l4 sl cl cs) * seqp sl (rlast R) * seqp cl (rcach R) * own 1 l1 (sl.map vS) * own 1 l2 (cl.map vS) * own 1 l3 (bads R) * own 1 l4 (zv cs) * pc mb [.int .i64 R.n, .int .i64 R.ns, vS l1, vS l2, vS l3, vS l4, .int .i64 R.count, .bool R.off] * own 1 s' (bv ((R.dk k.toNat).sec s)))
          (pr (((s', 0) : Slc × Int).2 = 0) * (ex fun sl : List Slc => ex fun cl : List Slc => ex fun cs : List Int => pr (RQ R l1 l2 l3 l4 sl cl cs) * seqp sl (rlast R) * seqp cl (rcach R) * own 1 l1 (sl.map vS) * own 1 l2 (cl.map vS) * own 1 l3 (bads R) * own 1 l4 (zv cs) * pc mb [.int .i64 R.n, .int .i64 R.ns, vS l1, vS l2, vS l3, vS l4, .int .i64 R.count, .bool R.off]) * own 1 s' (bv ((R.dk k.toNat).sec s))) := by
        intro s'
        refine ent_pick ?_
        refine ent_exr sl ?_
        refine ent_exr cl ?_
        refine ent_exr cs ?_
        simp only [← star_assoc]
        repeat first | (with_reducible refine ent_pick ?_) | (refine ent_prq ?_)
        all_goals first | exact hq | rfl | trivial
      refine wps_rdS i cl[i] rfl (by rw [List.getElem?_map, List.getElem?_eq_getElem hic]; rfl) ?_
      have hcb : Ent (seqp cl (rcach R)) (byt cl[i] (rcach R i)) := seqp_get (List.getElem?_eq_getElem hic)
      refine wps_fact (len_of (Ent.trans (ent_drop (B := seqp cl (rcach R))) hcb)) fun hcl => ?_
      cases hcs : (R.dk k.toNat).cached s with
      | some b =>
        have hb : rcach R i = b := by rw [hc, hcs]; rfl
        have hbl := ((hq.ok _ hk).2 s b hcs).1
        have hsec : (R.dk k.toNat).sec s = rcach R i := by rw [hb]; simp [Dk.sec, hcs]
        refine wps_ite (fun _ => ?_) (fun h => ?_)
        · repeat first | (with_reducible refine wps_nil ?_) | (refine wps_ld _ (by rfl) ?_)
          refine wps_rdS i cl[i] rfl (by rw [List.getElem?_map, List.getElem?_eq_getElem hic]; rfl) ?_
          refine wps_bind1 (ref00_CopyBytes_spec (b := (R.dk k.toNat).sec s) (Ent.trans (ent_drop (B := seqp cl (rcach R))) (by rw [hsec]; exact hcb)) (by rw [hsec, hb]; omega)) fun s' => wps_pure ?_
          exact Ent.trans (Ent.of_eq (by simp only [emp_star])) (close s')
        · exfalso
          rw [hb] at hcl
          simp only [decide_eq_true_eq] at h; omega
      | none =>
        have hb : rcach R i = [] := by rw [hc, hcs]; rfl
        have hsec : (R.dk k.toNat).sec s = rlast R i := by rw [hl]; simp [Dk.sec, hcs]
        have hlen : (rlast R i).length = 64 := by rw [hl]; exact (hq.ok _ hk).1 _ hs
        refine wps_ite (fun h => ?_) (fun h => ?_)
        · exfalso
          rw [hb] at hcl
          simp only [decide_eq_true_eq, List.length_nil] at h hcl; omega
        · repeat first | (with_reducible refine wps_nil ?_) | (refine wps_ld _ (by rfl) ?_)
          refine wps_rdS i sl[i] rfl (by rw [List.getElem?_map, List.getElem?_eq_getElem hil]; rfl) ?_
          refine wps_bind1 (ref00_CopyBytes_spec (b := (R.dk k.toNat).sec s) (Ent.trans (ent_drop (B := seqp sl (rlast R))) (by rw [hsec]; exact seqp_get (List.getElem?_eq_getElem hil))) (by rw [hsec, hlen]; omega)) fun s' => wps_pure ?_
          exact Ent.trans (Ent.of_eq (by simp only [emp_star])) (close s')
  · have hn : (k < 0 ∨ k ≥ R.n ∨ s < 0 ∨ s ≥ R.ns) := Classical.byContradiction fun h => ht (there_or.2 h)
    have he : R.rdErr k s = 11 := by simp only [Rk.rdErr, if_neg ho, if_pos hn]
    rw [show thereB R k s = false by simpa using ht]
    refine wps_ite (fun _ => wps_pure ?_) (fun h => absurd rfl h)
    simp only [Rk.rd, he]
    exact ent_own0 (ent_prr (by simp) (Ent.refl _))
end Go.Proofs.Ytldmeimebebllaa
namespace Go.Proofs.Ytldmeimebebllaa
open Go.Mo
set_option linter.unusedVariables false
variable {g : Fr} {cv : CV}
theorem maxI_bnd {c : Int} (h : c < 9223372036854775808) : -1 ≤ maxI c (-1) ∧ maxI c (-1) < 9223372036854775808 := by
  rw [maxI]; split <;> omega
theorem cnt_tick {c : Int} (h : -1 ≤ c ∧ c < 9223372036854775808) : -1 ≤ maxI (w64 (c - 1)) (-1) ∧ maxI (w64 (c - 1)) (-1) < 9223372036854775808 := by
  rw [w64_id (by omega) (by omega), maxI]; split <;> omega
theorem Rk.cok.arm {R : Rk} (h : R.cok) {c : Int} (hc : c < 9223372036854775808) : (R.arm c).cok := ⟨maxI_bnd hc, h.dks⟩
theorem Rk.cok.setD {R : Rk} (h : R.cok) {k : Nat} {D : Dk} (hD : -1 ≤ D.count ∧ D.count < 9223372036854775808) : (R.setD k D).cok := ⟨h.pow, fun j => by
  simp only [Rk.setD]; split
  · exact hD
  · exact h.dks j⟩
theorem Rk.cok.doom {R : Rk} (h : R.cok) {k c : Int} (hc : c < 9223372036854775808) : (R.doom k c).cok := by
  rw [Rk.doom]; split
  · exact h
  · exact h.setD (maxI_bnd hc)
theorem Rk.cok.ticked {R : Rk} (h : R.cok) : R.ticked.cok := by
  rw [Rk.ticked]; split
  · exact ⟨h.pow, h.dks⟩
  · exact ⟨cnt_tick h.pow, fun j => cnt_tick (h.dks j)⟩
theorem ref02_Doom_spec (mb : Nat) (R : Rk) (l1 l2 l3 l4 : Slc) (k c : Int) (hc : c < 9223372036854775808) :
    wps g (refQ mb R l1 l2 l3 l4) (ref02_Rack_Doom (ptr mb) k c) (fun e => pr (e = if k < 0 ∨ k ≥ R.n then 11 else 0) * refQ mb (R.doom k c) l1 l2 l3 l4) := by
  unfold ref02_Rack_Doom refQ refX4
  refine wps_ex fun sl => wps_ex fun cl => wps_ex fun cs => ?_
  refine wps_factP fun hq => ?_
  refine wps_val (v := decide (k < 0 ∨ k ≥ R.n)) ?_ ?_
  · apply val_eq
    · repeat first | (with_reducible refine wps_nil ?_) | (refine wps_ld _ (by rfl) ?_) | ((with_reducible apply val_ite); rotate_left; refine fun (_ : ¬ _) => ?_; rotate_right; refine fun (_ : _ = true) => ?_) | (with_reducible exact wps_pure (ent_val rfl))
    · by_cases h : k < 0 <;> by_cases h' : k ≥ (R.n : Int) <;> simp [h, h']
  by_cases hk : k < 0 ∨ k ≥ R.n
  · rw [if_pos hk, Rk.doom, if_pos hk]
    refine wps_ite (fun _ => wps_pure ?_) (fun h => absurd (by simpa using hk) h)
    exact ent_prr rfl (ent_ex sl (ent_ex cl (ent_ex cs (Ent.refl _))))
  · rw [if_neg hk, Rk.doom, if_neg hk]
    refine wps_ite (fun h => absurd (by simpa using h) hk) (fun _ => ?_)
    have hlt : k.toNat < R.n := by omega
    repeat first | (with_reducible refine wps_nil ?_) | (refine wps_ld _ (by rfl) ?_)
    refine wps_wrS k.toNat (by omega) (by rw [hq.hl4]; exact hlt) (wps_pure ?_)
    refine ent_prr rfl (ent_ex sl (ent_ex cl (ent_ex (cs.set k.toNat (maxI c (-1))) ?_)))
    refine ent_pickC (by rfl) (ent_pickS (cs' := zv (cs.set k.toNat (maxI c (-1)))) (by simp [zv, List.map_set]) ?_)
    have hdk : ∀ j, ((R.setD k.toNat { R.dk k.toNat with count := maxI c (-1) }).dk j).lasts = (R.dk j).lasts ∧ ((R.setD k.toNat { R.dk k.toNat with count := maxI c (-1) }).dk j).cached = (R.dk j).cached ∧ ((R.setD k.toNat { R.dk k.toNat with count := maxI c (-1) }).dk j).failed = (R.dk j).failed := by
      intro j
      simp only [Rk.setD]
      by_cases hj : j = k.toNat
      · subst hj; simp
      · simp [hj]
    have e1 : rlast (R.setD k.toNat { R.dk k.toNat with count := maxI c (-1) }) = rlast R := by
      funext i; simp only [rlast, (hdk _).1]; rfl
    have e2 : rcach (R.setD k.toNat { R.dk k.toNat with count := maxI c (-1) }) = rcach R := by
      funext i; simp only [rcach, (hdk _).2.1]; rfl
    have e3 : bads (R.setD k.toNat { R.dk k.toNat with count := maxI c (-1) }) = bads R := by
      simp only [bads, (hdk _).2.2]; rfl
    rw [e1, e2, e3]
    repeat first | (with_reducible refine ent_pick ?_) | (refine ent_prq ?_)
    all_goals first | trivial | skip
    refine ⟨hq.hsl, hq.hcl, by rw [List.length_set]; exact hq.hcs, hq.n17, hq.ns4, hq.hl1, hq.hl2, hq.hl3, hq.hl4, fun j hj => ?_, fun j hj hf => ?_, hq.cok.setD (maxI_bnd hc)⟩
    · have := hq.ok j hj
      exact ⟨fun q hq' => by rw [(hdk j).1]; exact this.1 q hq', fun q b hb => by rw [(hdk j).2.1] at hb; exact this.2 q b hb⟩
    · by_cases hjk : j = k.toNat
      · subst hjk
        rw [List.getElem?_set_self (by rw [hq.hcs]; exact hlt)]
        simp [Rk.setD]
      · rw [List.getElem?_set_ne (fun e => hjk e.symm)]
        rw [(hdk j).2.2] at hf
        rw [hq.cnt j hj hf]
        simp [Rk.setD, hjk]
def badsT (R : Rk) (i : Nat) : List Value := (List.range R.n).map fun j => .bool (R.part i j).failed
theorem bads_set {n i : Nat} (hi : i < n) {f f' : Nat → Bool} {v : Bool} (hv : f' i = v) (h : ∀ j, j < n → j ≠ i → f' j = f j) : ((List.range n).map fun j => Value.bool (f j)).set i (.bool v) = (List.range n).map fun j => Value.bool (f' j) := by
  apply List.ext_getElem?
  intro q
  rw [List.getElem?_set]
  simp only [List.getElem?_map, List.length_map, List.length_range]
  by_cases hq : q < n
  · rw [List.getElem?_range hq]
    by_cases e : i = q
    · subst e; simp [hv, hq]
    · have e' : q ≠ i := fun h => e h.symm
      simp [e, h q hq e']
  · rw [List.getElem?_eq_none (by simpa using hq)]
    have : ¬ i = q := by omega
    simp [this]
theorem bads_same {n : Nat} {f f' : Nat → Bool} (h : ∀ j, j < n → f' j = f j) : ((List.range n).map fun j => Value.bool (f j)) = (List.range n).map fun j => Value.bool (f' j) := by
  apply List.map_congr_left
  intro j hj
  rw [h j (List.mem_range.1 hj)]
theorem ref02_call_spec (mb : Nat) (R : Rk) (l1 l2 l3 l4 : Slc) : wps g (refQ mb R l1 l2 l3 l4) (ref02_Rack_call (ptr mb)) (fun e => pr (e = if R.count = 0 then 12 else 0) * refQ mb R.ticked l1 l2 l3 l4) := by
  unfold ref02_Rack_call refQ refX4
  refine wps_ex fun sl => wps_ex fun cl => wps_ex fun cs => ?_
  refine wps_prP fun hq => ?_
  repeat first | (with_reducible refine wps_nil ?_) | (refine wps_ld _ (by rfl) ?_)
  refine wps_ite (fun ho => ?_) (fun ho => ?_)
  · have ho' : R.count = 0 := by simpa using ho
    repeat first | (with_reducible refine wps_nil ?_) | (refine wps_st (by simp) ?_)
    refine wps_pure (ent_prr (by rw [if_pos ho']) (ent_ex sl (ent_ex cl (ent_ex cs ?_))))
    have ht : R.ticked = { R with off := true } := by rw [Rk.ticked, if_pos ho']
    rw [ht]
    refine ent_pickC (by rfl) ?_
    have e1 : rlast { R with off := true } = rlast R := rfl
    have e2 : rcach { R with off := true } = rcach R := rfl
    have e3 : bads { R with off := true } = bads R := rfl
    rw [e1, e2, e3]
    repeat first | (with_reducible refine ent_pick ?_) | (refine ent_prq ?_)
    exact ⟨hq.hsl, hq.hcl, hq.hcs, hq.n17, hq.ns4, hq.hl1, hq.hl2, hq.hl3, hq.hl4, hq.ok, hq.cnt, ⟨hq.cok.pow, hq.cok.dks⟩⟩
  · have ho' : ¬ R.count = 0 := by simpa using ho
    have ht : R.ticked = { R with count := maxI (w64 (R.count - 1)) (-1), dk := fun j => (R.dk j).tick } := by rw [Rk.ticked, if_neg ho']
    have hpw := hq.cok.pow
    generalize hP : maxI (w64 (R.count - 1)) (-1) = P at *
    repeat first | (with_reducible refine wps_nil ?_) | (refine wps_ld _ (by rfl) ?_)
    refine wps_bindS (R := fun _ => seqp sl (rlast R) * seqp cl (rcach R) * own 1 l1 (sl.map vS) * own 1 l2 (cl.map vS) * own 1 l3 (bads R) * own 1 l4 (zv cs) * pc mb [.int .i64 R.n, .int .i64 R.ns, vS l1, vS l2, vS l3, vS l4, .int .i64 P, .bool R.off]) ?_ fun _ => ?_
    · refine wps_ite (fun hc => ?_) (fun hc => ?_)
      · have hc' : R.count > 0 := by simpa using hc
        repeat first | (with_reducible refine wps_nil ?_) | (refine wps_ld _ (by rfl) ?_) | (refine wps_st (by simp) ?_)
        refine wps_pure ?_
        have : P = w64 (R.count - 1) := by
          rw [← hP, maxI, w64_id (by omega) (by omega), if_neg (by omega)]
        refine ent_pickC (by rw [this]; rfl) ?_
        repeat first | (with_reducible exact ent_drop) | (with_reducible refine ent_pick ?_)
      · have hc' : ¬ R.count > 0 := by simpa using hc
        refine wps_pure ?_
        have : P = R.count := by
          have : R.count = -1 := by omega
          rw [← hP, maxI, this, w64_id (by omega) (by omega), if_pos (by omega)]
        rw [this]
        show Ent _ (_ * _)
        repeat first | (with_reducible exact ent_drop) | (with_reducible refine ent_pick ?_)
    · refine wps_loop (fun i => ex fun n : Nat => ex fun cs : List Int => pr (i = (n : Int) ∧ n ≤ R.n ∧ cs.length = R.n ∧ ∀ j, j < R.n → (R.part n j).failed = false → cs[j]? = some (R.part n j).count) * seqp sl (rlast R) * seqp cl (rcach R) * own 1 l1 (sl.map vS) * own 1 l2 (cl.map vS) * own 1 l3 (badsT R n) * own 1 l4 (zv cs) * pc mb [.int .i64 R.n, .int .i64 R.ns, vS l1, vS l2, vS l3, vS l4, .int .i64 P, .bool R.off]) (fun i => (R.n - i).toNat) ?_ fun i => ?_
      · refine ent_ex 0 (ent_ex cs ?_)
        have hb : badsT R 0 = bads R := by simp [badsT, bads, Rk.part]
        rw [hb]
        repeat first | (with_reducible refine ent_pick ?_) | (refine ent_prq ?_)
        refine ⟨rfl, by omega, hq.hcs, fun j hj hf => ?_⟩
        simp only [Rk.part, Nat.not_lt_zero, if_false] at hf ⊢
        exact hq.cnt j hj hf
      · refine wps_ex fun n => wps_ex fun cs => wps_prP fun ⟨hi, hn, hcl, hcnt⟩ => ?_
        repeat first | (with_reducible refine wps_nil ?_) | (refine wps_ld _ (by rfl) ?_)
        refine wps_ite (fun hc => ?_) (fun hc => ?_)
        · have hlt : n < R.n := by simp only [decide_eq_true_eq] at hc; omega
          have hn17 := hq.n17
          repeat first | (with_reducible refine wps_nil ?_) | (refine wps_ld _ (by rfl) ?_)
          have hpn : R.part n n = R.dk n := by simp [Rk.part]
          have hps : R.part (n + 1) n = (R.dk n).tick := by simp [Rk.part]
          have hpo : ∀ j, j ≠ n → R.part (n + 1) j = R.part n j := by
            intro j hj
            have : j < n + 1 ↔ j < n := by omega
            simp only [Rk.part, this]
          refine wps_rdS n (R.dk n).failed hi (by rw [badsT, List.getElem?_map, List.getElem?_range hlt, ← hpn]; rfl) ?_
          refine wps_ite (fun hf => ?_) (fun hf => ?_)
          · refine wps_pure ?_
            refine ent_prr (by rw [range_add1 hi (by omega)]; omega) (ent_ex (n + 1) (ent_ex cs ?_))
            have hb : badsT R n = badsT R (n + 1) := bads_same fun j hj => by
              by_cases hjn : j = n
              · subst hjn; rw [hps, hpn]; simp [hf]
              · rw [hpo j hjn]
            rw [hb]
            repeat first | (with_reducible refine ent_pick ?_) | (refine ent_prq ?_)
            refine ⟨range_add1 hi (by omega), by omega, hcl, fun j hj hff => ?_⟩
            by_cases hjn : j = n
            · subst hjn; rw [hps] at hff; simp [hf] at hff
            · rw [hpo j hjn] at hff ⊢; exact hcnt j hj hff
          · have hff : (R.dk n).failed = false := by simpa using hf
            have hcn : cs[n]? = some (R.dk n).count := by rw [← hpn]; exact hcnt n hlt (by rw [hpn]; exact hff)
            have hdc := hq.cok.dks n
            repeat first | (with_reducible refine wps_nil ?_) | (refine wps_ld _ (by rfl) ?_)
            refine wps_rdS n (R.dk n).count hi (by simp [zv, hcn]) ?_
            refine wps_bindS (R := fun _ => seqp sl (rlast R) * seqp cl (rcach R) * own 1 l1 (sl.map vS) * own 1 l2 (cl.map vS) * own 1 l3 (badsT R (n + 1)) * own 1 l4 (zv cs) * pc mb [.int .i64 R.n, .int .i64 R.ns, vS l1, vS l2, vS l3, vS l4, .int .i64 P, .bool R.off]) ?_ fun _ => ?_
            · refine wps_ite (fun h0 => ?_) (fun h0 => ?_)
              · have h0' : (R.dk n).count = 0 := by simpa using h0
                repeat first | (with_reducible refine wps_nil ?_) | (refine wps_ld _ (by rfl) ?_)
                refine wps_wrS n hi (by rw [hq.hl3]; exact hlt) (wps_pure ?_)
                refine ent_pick (ent_pick (ent_pickS ?_ ?_))
                · exact bads_set hlt (by rw [hps]; simp [hff, h0']) fun j hj hjn => by rw [hpo j hjn]
                · repeat first | (with_reducible exact ent_drop) | (with_reducible refine ent_pick ?_)
              · have h0' : ¬ (R.dk n).count = 0 := by simpa using h0
                have hb : badsT R n = badsT R (n + 1) := bads_same fun j hj => by
                  by_cases hjn : j = n
                  · subst hjn; rw [hps, hpn]; simp [hff, h0']
                  · rw [hpo j hjn]
                rw [hb]
                refine wps_pure ?_
                show Ent _ (_ * _)
                repeat first | (with_reducible exact ent_drop) | (with_reducible refine ent_pick ?_)
            · repeat first | (with_reducible refine wps_nil ?_) | (refine wps_ld _ (by rfl) ?_)
              refine wps_rdS n (R.dk n).count hi (by simp [zv, hcn]) ?_
              have hgoal : ∀ cs' : List Int, cs'.length = R.n → (∀ j, j < R.n → j ≠ n → cs'[j]? = cs[j]?) → ((R.dk n).count ≠ 0 → cs'[n]? = some (maxI (w64 ((R.dk n).count - 1)) (-1))) →
                  (∀ j, j < R.n → (R.part (n + 1) j).failed = false → cs'[j]? = some (R.part (n + 1) j).count) := by
                intro cs' h1 h2 h3 j hj hfj
                by_cases hjn : j = n
                · subst hjn
                  rw [hps] at hfj ⊢
                  refine h3 fun h0 => ?_
                  simp [hff, h0] at hfj
                · rw [h2 j hj hjn]
                  rw [hpo j hjn] at hfj ⊢
                  exact hcnt j hj hfj
              refine wps_ite (fun hp => ?_) (fun hp => ?_)
              · have hp' : (R.dk n).count > 0 := by simpa using hp
                repeat first | (with_reducible refine wps_nil ?_) | (refine wps_ld _ (by rfl) ?_)
                refine wps_rdS n (R.dk n).count hi (by simp [zv, hcn]) ?_
                refine wps_wrS n hi (by rw [hq.hl4]; exact hlt) (wps_pure ?_)
                refine ent_prr (by rw [range_add1 hi (by omega)]; omega) (ent_ex (n + 1) (ent_ex (cs.set n (w64 ((R.dk n).count - 1))) ?_))
                refine ent_pick (ent_pickS (by simp [zv, List.map_set]) ?_)
                repeat first | (with_reducible refine ent_pick ?_) | (refine ent_prq ?_)
                refine ⟨range_add1 hi (by omega), by omega, by simpa using hcl, hgoal _ (by simpa using hcl) (fun j _ hjn => by rw [List.getElem?_set_ne (fun e => hjn e.symm)]) fun _ => ?_⟩
                rw [List.getElem?_set_self (by omega)]
                rw [maxI, w64_id (by omega) (by omega), if_neg (by omega)]
              · have hp' : ¬ (R.dk n).count > 0 := by simpa using hp
                refine wps_pure ?_
                refine ent_prr (by rw [range_add1 hi (by omega)]; omega) (ent_ex (n + 1) (ent_ex cs ?_))
                repeat first | (with_reducible refine ent_pick ?_) | (refine ent_prq ?_)
                refine ⟨range_add1 hi (by omega), by omega, hcl, hgoal _ hcl (fun j _ _ => rfl) fun h0 => ?_⟩
                have : (R.dk n).count = -1 := by omega
                rw [hcn, maxI, this, w64_id (by omega) (by omega), if_pos (by omega)]
        · have hne : n = R.n := by simp only [decide_eq_true_eq] at hc; omega
          subst hne
          refine wps_mapR (wps_pure ?_)
          refine ent_prr (by rw [if_neg ho']) (ent_ex sl (ent_ex cl (ent_ex cs ?_)))
          have e1 : rlast R.ticked = rlast R := by rw [ht]; rfl
          have e2 : rcach R.ticked = rcach R := by rw [ht]; rfl
          have e3 : bads R.ticked = badsT R R.n := by
            rw [ht]
            exact bads_same fun j hj => by simp [Rk.part, hj]
          have e4 : R.ticked.n = R.n := by rw [ht]
          have e5 : R.ticked.ns = R.ns := by rw [ht]
          have e6 : R.ticked.count = P := by rw [ht]
          have e7 : R.ticked.off = R.off := by rw [ht]
          have hdt : ∀ j, R.ticked.dk j = (R.dk j).tick := fun j => by rw [ht]
          rw [e1, e2, e3, e4, e5, e6, e7]
          repeat first | (with_reducible refine ent_pick ?_) | (refine ent_prq ?_)
          have hq' : RQ R.ticked l1 l2 l3 l4 sl cl cs := by
            refine ⟨by rw [e4, e5]; exact hq.hsl, by rw [e4, e5]; exact hq.hcl, by rw [e4]; exact hcl, by rw [e4]; exact hq.n17, by rw [e5]; exact hq.ns4, by rw [e4, e5]; exact hq.hl1, by rw [e4, e5]; exact hq.hl2, by rw [e4]; exact hq.hl3, by rw [e4]; exact hq.hl4, fun j hj => ?_, fun j hj hf => ?_, hq.cok.ticked⟩
            · rw [e4] at hj; rw [hdt, e5]; exact hq.ok j hj
            · rw [e4] at hj
              rw [hdt] at hf ⊢
              have := hcnt j hj
              simp only [Rk.part, hj, if_true] at this
              exact this hf
          exact hq'
end Go.Proofs.Ytldmeimebebllaa
namespace Go.Proofs.Ytldmeimebebllaa
open Go.Mo
set_option linter.unusedVariables false
variable {g : Fr} {cv : CV}
theorem ref02_off {mb : Nat} {R : Rk} {l1 l2 l3 l4 : Slc} {α : Type} {F : HP} {K : Bool → M α} {Q : α → HP} (h : wps g (F * refQ mb R l1 l2 l3 l4) (K R.off) Q) : wps g (F * refQ mb R l1 l2 l3 l4) (bindM (ld Value.bool ⟨mb, 7, none⟩) K) Q := by
  refine wps_val (v := R.off) ?_ h
  show wps g _ (bindM (ld Value.bool ⟨mb, 7, none⟩) pureM) _
  unfold refQ refX4
  refine wps_exr fun sl => wps_exr fun cl => wps_exr fun cs => ?_
  repeat refine wps_ld _ (by rfl) ?_
  exact wps_pure (ent_prr rfl (Ent.starr (ent_ex sl (ent_ex cl (ent_ex cs (Ent.refl _))))))
def mix {α : Type} (m : Nat) (f f' : Nat → α) : Nat → α := fun i => if i < m then f i else f' i
theorem seqp_mix {A : HP} {sl : List Slc} {m : Nat} {f f' : Nat → List Int} {s : Slc} (h : Ent A (seqp sl (mix m f f'))) (hs : Ent A (byt s (f m))) : Ent A (seqp (sl.set m s) (mix (m + 1) f f')) :=
  Ent.trans (seqp_set (k := m) h hs) (seqp_ext fun i _ => by
    simp only [mix]
    by_cases hi : i = m
    · subst hi; simp
    · have : i < m + 1 ↔ i < m := by omega
      simp [hi, this])
theorem seqp_mixs {sl : List Slc} {m : Nat} {f f' : Nat → List Int} (h : f m = f' m) : Ent (seqp sl (mix m f f')) (seqp sl (mix (m + 1) f f')) := seqp_ext fun i _ => by
  simp only [mix]
  by_cases hi : i = m
  · subst hi; simp [h]
  · have : i < m + 1 ↔ i < m := by omega
    simp [this]
theorem Rk.cok.put {R : Rk} (h : R.cok) (k s : Int) (b : List Int) : (R.put k s b).cok := ⟨h.pow, fun j => by
  simp only [Rk.put]; split
  · exact h.dks j
  · exact h.dks j⟩
theorem ticked_n (R : Rk) : R.ticked.n = R.n ∧ R.ticked.ns = R.ns := by
  unfold Rk.ticked; split <;> exact ⟨rfl, rfl⟩
end Go.Proofs.Ytldmeimebebllaa
namespace Go.Proofs.Ytldmeimebebllaa
open Go.Mo
set_option linter.unusedVariables false
variable {g : Fr} {cv : CV}
theorem setD_other {R : Rk} {k : Nat} {D : Dk} {i : Nat} (h : i / R.ns ≠ k) : rlast (R.setD k D) i = rlast R i ∧ rcach (R.setD k D) i = rcach R i := by
  constructor
  · show ((R.setD k D).dk (i / R.ns)).lasts _ = _
    simp only [Rk.setD, if_neg h]; rfl
  · show (((R.setD k D).dk (i / R.ns)).cached _).getD [] = _
    simp only [Rk.setD, if_neg h]; rfl
theorem setD_at {R : Rk} {k : Nat} {D : Dk} {t : Nat} (h : t < R.ns) : rlast (R.setD k D) (k * R.ns + t) = D.lasts t ∧ rcach (R.setD k D) (k * R.ns + t) = (D.cached (t : Int)).getD [] := by
  have hd := flat_div (k := k) h
  constructor
  · show ((R.setD k D).dk ((k * R.ns + t) / R.ns)).lasts ((k * R.ns + t) % R.ns) = _
    rw [hd.1, hd.2]; simp [Rk.setD]
  · show (((R.setD k D).dk ((k * R.ns + t) / R.ns)).cached (((k * R.ns + t) % R.ns : Nat) : Int)).getD [] = _
    rw [hd.1, hd.2]; simp [Rk.setD]
theorem ref_at {R : Rk} {k t : Nat} (h : t < R.ns) : rlast R (k * R.ns + t) = (R.dk k).lasts t ∧ rcach R (k * R.ns + t) = ((R.dk k).cached (t : Int)).getD [] := by
  have hd := flat_div (k := k) h
  exact ⟨by rw [rlast, hd.1, hd.2], by rw [rcach, hd.1, hd.2]⟩
theorem before_k {ns i k : Nat} (h : i < k * ns) : i / ns ≠ k := by
  intro e
  have : i < k * ns := h
  have h0 : 0 < ns := Nat.pos_of_ne_zero fun h0 => by rw [h0] at this; omega
  have := (Nat.div_lt_iff_lt_mul h0).2 this
  omega
theorem after_k {ns i k : Nat} (h : (k + 1) * ns ≤ i) (h0 : 0 < ns) : i / ns ≠ k := by
  intro e
  have := (Nat.le_div_iff_mul_le h0).2 h
  omega
theorem RQ.flat {R : Rk} {l1 l2 l3 l4 : Slc} {sl cl : List Slc} {cs : List Int} (h : RQ R l1 l2 l3 l4 sl cl cs) {k : Int} (hk : 0 ≤ k ∧ k < R.n) : w64 (k * (R.ns : Int)) = ((k.toNat * R.ns : Nat) : Int) ∧ w64 (w64 (k + 1) * (R.ns : Int)) = (((k.toNat + 1) * R.ns : Nat) : Int) ∧ (k.toNat + 1) * R.ns ≤ R.n * R.ns ∧ (k.toNat + 1) * R.ns ≤ 69632 := by
  obtain ⟨K, rfl⟩ : ∃ K : Nat, k = (K : Int) := ⟨k.toNat, by omega⟩
  have h17 := h.n17
  have h1 : (K + 1) * R.ns ≤ R.n * R.ns := Nat.mul_le_mul_right _ (by omega)
  have h2 : R.n * R.ns ≤ 17 * 4096 := Nat.mul_le_mul h17 h.ns4
  have h3 : K * R.ns ≤ (K + 1) * R.ns := Nat.mul_le_mul_right _ (by omega)
  simp only [Int.toNat_natCast]
  refine ⟨?_, ?_, h1, by omega⟩
  · rw [← Int.natCast_mul, w64_id] <;> omega
  · rw [w64_id (n := (K : Int) + 1) (by omega) (by omega), show (K : Int) + 1 = ((K + 1 : Nat) : Int) by omega, ← Int.natCast_mul, w64_id] <;> omega
theorem RQ.setD {R : Rk} {l1 l2 l3 l4 : Slc} {sl cl sl' cl' : List Slc} {cs : List Int} (h : RQ R l1 l2 l3 l4 sl cl cs) {k : Nat} {D : Dk} (hok : k < R.n → D.ok R.ns) (hf : D.failed = (R.dk k).failed) (hc : D.count = (R.dk k).count) (h1 : sl'.length = R.n * R.ns) (h2 : cl'.length = R.n * R.ns) : RQ (R.setD k D) l1 l2 l3 l4 sl' cl' cs := by
  refine ⟨h1, h2, h.hcs, h.n17, h.ns4, h.hl1, h.hl2, h.hl3, h.hl4, fun j hj => ?_, fun j hj hff => ?_, h.cok.setD (by rw [hc]; exact h.cok.dks k)⟩
  · simp only [Rk.setD]
    split
    · rename_i e; subst e; exact hok hj
    · exact h.ok j hj
  · simp only [Rk.setD] at hff ⊢
    by_cases e : j = k
    · subst e
      rw [if_pos rfl] at hff ⊢
      rw [hc]; exact h.cnt j hj (by rw [← hf]; exact hff)
    · rw [if_neg e] at hff ⊢
      exact h.cnt j hj hff
theorem bads_setD {R : Rk} {k : Nat} {D : Dk} (hf : D.failed = (R.dk k).failed) : bads (R.setD k D) = bads R := by
  refine (bads_same fun j _ => ?_).symm
  simp only [Rk.setD]
  split
  · rename_i e; subst e; exact hf
  · rfl
theorem ref02_Flush_spec (mb : Nat) (R : Rk) (l1 l2 l3 l4 : Slc) (k : Int) :
    wps g (refQ mb R l1 l2 l3 l4) (ref02_Rack_Flush (ptr mb) k) (fun e => pr (e = R.gate k 0 64) * refQ mb (R.flush k) l1 l2 l3 l4) := by
  unfold ref02_Rack_Flush
  have fin : ∀ e, e = R.gate k 0 64 → e ≠ 0 → ∀ R', R' = R.gated k 0 64 → Ent (refQ mb R' l1 l2 l3 l4) (pr (e = R.gate k 0 64) * refQ mb (R.flush k) l1 l2 l3 l4) := by
    intro e he h0 R' hR'
    rw [Rk.flush, if_neg (by omega), ← hR']
    exact ent_prr he (Ent.refl _)
  repeat with_reducible refine wps_nil ?_
  rw [← emp_star (refQ mb R l1 l2 l3 l4)]
  refine ref02_off ?_
  rw [emp_star]
  by_cases ho : R.off = true
  · rw [if_pos ho]
    exact wps_pure (fin _ (by simp [Rk.gate, ho]) (by omega) _ (by simp [Rk.gated, ho]))
  rw [if_neg ho]
  refine wps_val (ref02_there_val mb R l1 l2 l3 l4 k 0) ?_
  by_cases ht : thereB R k 0 = true
  rotate_left
  · have hn : (k < 0 ∨ k ≥ R.n ∨ (0 : Int) < 0 ∨ (0 : Int) ≥ R.ns) := Classical.byContradiction fun h => ht (there_or.2 h)
    rw [show thereB R k 0 = false by simpa using ht]
    refine wps_ite (fun _ => ?_) (fun h => absurd rfl h)
    exact wps_pure (fin _ (by simp only [Rk.gate, if_neg ho, if_pos hn]) (by omega) _ (by rw [Rk.gated, if_pos (.inr (.inl hn))]))
  have hn := there_or.1 ht
  rw [ht]
  refine wps_ite (fun h => absurd h (by decide)) (fun _ => ?_)
  have hs : ¬ (64 : Int) ≠ 64 := by omega
  have hgd : R.gated k 0 64 = R.ticked := by
    rw [Rk.gated, if_neg]
    rintro (h | h | h)
    · exact ho h
    · exact hn h
    · exact hs h
  refine wps_bind (ref02_call_spec mb R l1 l2 l3 l4) fun e => ?_
  refine wps_pr fun he => ?_
  by_cases hc : R.count = 0
  · rw [if_pos hc] at he
    subst he
    refine wps_ite (fun _ => ?_) (fun h => absurd rfl h)
    exact wps_pure (fin _ (by simp only [Rk.gate, if_neg ho, if_neg hn, if_neg hs, if_pos hc]) (by omega) _ hgd.symm)
  rw [if_neg hc] at he
  subst he
  refine wps_ite (fun h => absurd h (by decide)) (fun _ => ?_)
  obtain ⟨hk2, hs2⟩ := there_true ht
  have htn := ticked_n R
  rw [← htn.1] at hk2
  rw [← htn.2] at hs2
  unfold refQ
  refine wps_exP fun sl => wps_exP fun cl => wps_exP fun cs => ?_
  unfold refX4
  simp only [← star_assoc]
  refine wps_factP fun hq => ?_
  have hkl : k.toNat < R.ticked.n := by omega
  repeat first | (with_reducible refine wps_nil ?_) | (refine wps_ld _ (by rfl) ?_)
  refine wps_rdS k.toNat (R.ticked.dk k.toNat).failed (by omega) (by rw [bads, List.getElem?_map, List.getElem?_range hkl]; rfl) ?_
  refine wps_ite (fun hf => ?_) (fun hf => ?_)
  · have hg : R.gate k 0 64 = 13 := by simp only [Rk.gate, if_neg ho, if_neg hn, if_neg hs, if_neg hc, if_pos hf]
    refine wps_pure ?_
    have := fin 13 hg.symm (by omega) _ hgd.symm
    unfold refQ refX4 at this
    refine Ent.trans ?_ this
    refine Ent.trans ?_ (ent_ex sl (ent_ex cl (ent_ex cs (Ent.refl _))))
    exact Ent.of_eq (by simp only [emp_star])
  · have hg : R.gate k 0 64 = 0 := by simp only [Rk.gate, if_neg ho, if_neg hn, if_neg hs, if_neg hc, if_neg hf]
    have hfl : R.flush k = R.ticked.setD k.toNat ((R.ticked.dk k.toNat).flushed fun _ => true).clean := by rw [Rk.flush, if_pos hg, hgd]
    rw [hfl, hg]
    generalize R.ticked = R1 at *
    obtain ⟨w1, w2, w3, w4⟩ := hq.flat hk2
    generalize k.toNat = K at *
    generalize hD : ((R1.dk K).flushed fun _ => true).clean = D at *
    repeat first | (with_reducible refine wps_nil ?_) | (refine wps_ld _ (by rfl) ?_)
    rw [w1]
    refine wps_loop (fun s => ex fun m : Nat => ex fun sl : List Slc => ex fun cl : List Slc => pr (s = (m : Int) ∧ K * R1.ns ≤ m ∧ m ≤ (K + 1) * R1.ns ∧ sl.length = R1.n * R1.ns ∧ cl.length = R1.n * R1.ns) * seqp sl (mix m (rlast (R1.setD K D)) (rlast R1)) * seqp cl (mix m (rcach (R1.setD K D)) (rcach R1)) * own 1 l1 (sl.map vS) * own 1 l2 (cl.map vS) * own 1 l3 (bads R1) * own 1 l4 (zv cs) * pc mb [.int .i64 R1.n, .int .i64 R1.ns, vS l1, vS l2, vS l3, vS l4, .int .i64 R1.count, .bool R1.off]) (fun s => ((((K + 1) * R1.ns : Nat) : Int) - s).toNat) ?_ fun s => ?_
    · refine ent_ex (K * R1.ns) (ent_ex sl (ent_ex cl ?_))
      refine ent_swap (A := seqp sl (rlast R1)) (B := seqp sl (mix (K * R1.ns) (rlast (R1.setD K D)) (rlast R1))) (seqp_ext fun i _ => ?_) ?_
      · simp only [mix]; split
        · rename_i h; exact ((setD_other (before_k h)).1).symm
        · rfl
      refine ent_swap (A := seqp cl (rcach R1)) (B := seqp cl (mix (K * R1.ns) (rcach (R1.setD K D)) (rcach R1))) (seqp_ext fun i _ => ?_) ?_
      · simp only [mix]; split
        · rename_i h; exact ((setD_other (before_k h)).2).symm
        · rfl
      repeat first | (with_reducible refine ent_pick ?_) | (refine ent_prq ?_)
      exact ⟨rfl, Nat.le_refl _, Nat.mul_le_mul_right _ (by omega), hq.hsl, hq.hcl⟩
    · refine wps_ex fun m => wps_ex fun sl => wps_ex fun cl => wps_prP fun ⟨hm, hm1, hm2, hsl, hcl⟩ => ?_
      repeat first | (with_reducible refine wps_nil ?_) | (refine wps_ld _ (by rfl) ?_)
      rw [w2]
      refine wps_ite (fun hlt0 => ?_) (fun hlt0 => ?_)
      · have hlt : m < (K + 1) * R1.ns := by simp only [decide_eq_true_eq] at hlt0; omega
        obtain ⟨t, rfl⟩ : ∃ t, m = K * R1.ns + t := ⟨m - K * R1.ns, by omega⟩
        have htn' : t < R1.ns := by rw [Nat.add_mul] at hlt; omega
        have hset := setD_at (R := R1) (k := K) (D := D) htn'
        have hat := ref_at (R := R1) (k := K) htn'
        generalize hmm : K * R1.ns + t = m at *
        have hmr : m < R1.n * R1.ns := by omega
        repeat first | (with_reducible refine wps_nil ?_) | (refine wps_ld _ (by rfl) ?_)
        have hic : m < cl.length := by omega
        refine wps_rdS m cl[m] hm (by rw [List.getElem?_map, List.getElem?_eq_getElem hic]; rfl) ?_
        have hcb : Ent (seqp cl (mix m (rcach (R1.setD K D)) (rcach R1))) (byt cl[m] (rcach R1 m)) := Ent.trans (seqp_get (List.getElem?_eq_getElem hic)) (Ent.of_eq (by simp [mix]))
        refine wps_fact (len_of (Ent.trans (ent_drop (B := seqp cl (mix m (rcach (R1.setD K D)) (rcach R1)))) hcb)) fun hclen => ?_
        have hDc : rcach (R1.setD K D) m = [] := by rw [hset.2, ← hD]; rfl
        have hDl : rlast (R1.setD K D) m = match (R1.dk K).cached (t : Int) with | some b => b | none => (R1.dk K).lasts t := by
          rw [hset.1, ← hD]
          simp only [Dk.clean, Dk.flushed]
          cases (R1.dk K).cached (t : Int) <;> rfl
        have hok := hq.ok K hkl
        refine wps_ite (fun hpos => ?_) (fun hpos => ?_)
        · have hpos' : 0 < cl[m].len := by simpa using hpos
          obtain ⟨b, hb⟩ : ∃ b, (R1.dk K).cached (t : Int) = some b := by
            cases hcc : (R1.dk K).cached (t : Int) with
            | some b => exact ⟨b, rfl⟩
            | none =>
              rw [hat.2, hcc] at hclen
              simp at hclen; omega
          have hDl' : rlast (R1.setD K D) m = rcach R1 m := by rw [hDl, hat.2, hb]; rfl
          refine wps_regionH ?_
          repeat first | (with_reducible refine wps_nil ?_) | (refine wps_ldI _ (by rfl) ?_)
          refine wps_rdI m cl[m] (Ent.trans (ent_pick1 (A := own 1 l2 (cl.map vS))) (own_rsl _ _ _)) (Ent.refl _) hm (by rw [List.getElem?_map, List.getElem?_eq_getElem hic]; rfl) ?_
          refine wps_wrS m hm (by rw [hq.hl1]; exact hmr) ?_
          repeat first | (with_reducible refine wps_nil ?_) | (refine wps_ld _ (by rfl) ?_)
          refine wps_wrS m hm (by rw [hq.hl2]; exact hmr) (wps_pure ?_)
          refine ent_prr (by rw [range_add1 hm (by omega)]; omega) (ent_ex (m + 1) (ent_ex (sl.set m cl[m]) (ent_ex (cl.set m nilS) ?_)))
          refine ent_pick (ent_pick (ent_pick (ent_pickS (by rw [List.map_set]; rfl) (ent_pickS (by rw [List.map_set]; rfl) ?_))))
          refine Ent.trans (B := seqp sl (mix m (rlast (R1.setD K D)) (rlast R1)) * seqp cl (mix m (rcach (R1.setD K D)) (rcach R1))) (by exact ent_pick (ent_pick (ent_emp _)) |> fun h => by rw [emp_star] at h; exact h) ?_
          refine ent_and ?_ ?_
          · refine ent_prr ⟨range_add1 hm (by omega), by omega, by omega, by simpa using hsl, by simpa using hcl⟩ (seqp_mix (ent_left _ _) (Ent.trans (ent_right _ _) (Ent.trans hcb (Ent.of_eq (by rw [hDl'])))))
          · exact seqp_mix (ent_right _ _) (Ent.trans (ent_emp _) (by rw [hDc]; exact rsl_nil 1))
        · have hpos' : cl[m].len = 0 := by
            have : ¬ 0 < cl[m].len := by simpa using hpos
            omega
          have hnone : (R1.dk K).cached (t : Int) = none := by
            cases hcc : (R1.dk K).cached (t : Int) with
            | none => rfl
            | some b =>
              rw [hat.2, hcc] at hclen
              have := (hok.2 _ b hcc).1
              simp at hclen; omega
          refine wps_pure ?_
          refine ent_prr (by rw [range_add1 hm (by omega)]; omega) (ent_ex (m + 1) (ent_ex sl (ent_ex cl ?_)))
          refine ent_swap (A := seqp sl (mix m (rlast (R1.setD K D)) (rlast R1))) (seqp_mixs (by rw [hDl, hnone, hat.1])) ?_
          refine ent_swap (A := seqp cl (mix m (rcach (R1.setD K D)) (rcach R1))) (seqp_mixs (by rw [hDc, hat.2, hnone]; rfl)) ?_
          repeat first | (with_reducible refine ent_pick ?_) | (refine ent_prq ?_)
          exact ⟨range_add1 hm (by omega), by omega, by omega, hsl, hcl⟩
      · have hme : m = (K + 1) * R1.ns := by simp only [decide_eq_true_eq] at hlt0; omega
        refine wps_mapR (wps_pure ?_)
        refine ent_exr sl ?_
        refine ent_exr cl ?_
        refine ent_exr cs ?_
        simp only [← star_assoc]
        have hns0 : 0 < R1.ns := by omega
        have hfd : D.failed = (R1.dk K).failed := by rw [← hD]; rfl
        rw [bads_setD hfd]
        refine ent_swap (A := seqp sl (mix m (rlast (R1.setD K D)) (rlast R1))) (B := seqp sl (rlast (R1.setD K D))) (seqp_ext fun i _ => ?_) ?_
        · simp only [mix]; split
          · rfl
          · rename_i h; exact ((setD_other (after_k (by omega) hns0)).1).symm
        refine ent_swap (A := seqp cl (mix m (rcach (R1.setD K D)) (rcach R1))) (B := seqp cl (rcach (R1.setD K D))) (seqp_ext fun i _ => ?_) ?_
        · simp only [mix]; split
          · rfl
          · rename_i h; exact ((setD_other (after_k (by omega) hns0)).2).symm
        refine ent_pickC (by rfl) ?_
        repeat first | (with_reducible refine ent_pick ?_) | (refine ent_prx ?_ ?_; rotate_left) | (refine ent_prq ?_)
        all_goals first | trivial | skip
        refine hq.setD (fun _ => ?_) hfd (by rw [← hD]; rfl) hsl hcl
        rw [← hD]
        exact ⟨(Dk.ok_flushed (hq.ok K hkl) fun _ => true).1, fun j b h => by cases h⟩
end Go.Proofs.Ytldmeimebebllaa

namespace Go.Proofs.Ytldmeimebebllaa
open Go.Mo
set_option linter.unusedVariables false
variable {g : Fr} {cv : CV}
def upTo (im : List Int) (k t : Nat) : List Value := (List.range 64).map fun i => .int .u8 (if i < t then im.getD (k * 64 + i) 0 else 0)
theorem upTo_end {im : List Int} {k t : Nat} (h : t = 64 ∨ im.length ≤ k * 64 + t) : upTo im k t = bv (secOf im k) := by
  simp only [upTo, bv, secOf, List.map_map]
  apply List.map_congr_left
  intro i hi
  have hi := List.mem_range.1 hi
  show Value.int .u8 _ = Value.int .u8 _
  by_cases h' : i < t
  · rw [if_pos h']
  · simp only [if_neg h', List.getD_eq_getElem?_getD]
    rw [List.getElem?_eq_none (by omega)]; rfl
theorem upTo_set (im : List Int) (k : Nat) {t : Nat} (h : t < 64) : (upTo im k t).set t (.int .u8 (im.getD (k * 64 + t) 0)) = upTo im k (t + 1) := by
  apply List.ext_getElem?
  intro i
  rw [List.getElem?_set]
  simp only [upTo, List.getElem?_map, List.length_map, List.length_range]
  by_cases hi : i < 64
  · rw [List.getElem?_range hi]
    by_cases e : t = i
    · subst e; simp [h]
    · have : i < t + 1 ↔ i < t := by omega
      simp [e, this]
  · rw [List.getElem?_eq_none (by simpa using hi)]
    have : ¬ t = i := by omega
    simp [this]
theorem ref02_Load_spec {H : HP} (mb : Nat) (R : Rk) (l1 l2 l3 l4 : Slc) (k : Int) (x : Slc) (im : List Int) (hx : Ent H (byt x im)) (him : im.length ≤ 1099511627776) :
    wps g (H * refQ mb R l1 l2 l3 l4) (ref02_Rack_Load (ptr mb) k x) (fun e => pr (e = if k < 0 ∨ k ≥ R.n then 11 else 0) * H * refQ mb (R.load k im) l1 l2 l3 l4) := by
  unfold ref02_Rack_Load
  refine wps_fact (Ent.trans (ent_left _ _) (len_of hx)) fun hl => ?_
  unfold refQ
  refine wps_exr fun sl => wps_exr fun cl => wps_exr fun cs => ?_
  unfold refX4
  simp only [← star_assoc]
  refine wps_factP fun hq => ?_
  refine wps_val (v := decide (k < 0 ∨ k ≥ R.n)) ?_ ?_
  · apply val_eq
    · repeat first | (with_reducible refine wps_nil ?_) | (refine wps_ld _ (by rfl) ?_) | ((with_reducible apply val_ite); rotate_left; refine fun (_ : ¬ _) => ?_; rotate_right; refine fun (_ : _ = true) => ?_) | (with_reducible exact wps_pure (ent_val rfl))
    · by_cases h : k < 0 <;> by_cases h' : k ≥ (R.n : Int) <;> simp [h, h']
  by_cases hk : k < 0 ∨ k ≥ R.n
  · rw [if_pos hk, Rk.load, if_pos hk]
    refine wps_ite (fun _ => wps_pure ?_) (fun h => absurd (by simpa using hk) h)
    refine ent_exr sl ?_
    refine ent_exr cl ?_
    refine ent_exr cs ?_
    simp only [← star_assoc]
    repeat first | (with_reducible refine ent_pick ?_) | (refine ent_prq ?_)
    all_goals first | exact hq | trivial
  · rw [if_neg hk, Rk.load, if_neg hk]
    refine wps_ite (fun h => absurd (by simpa using h) hk) (fun _ => ?_)
    have hk2 : 0 ≤ k ∧ k < R.n := by omega
    have hkl : k.toNat < R.n := by omega
    obtain ⟨w1, w2, w3, w4⟩ := hq.flat hk2
    have hns4 := hq.ns4
    have w5 : ∀ t : Nat, t < R.ns → w64 (w64 (k * (R.ns : Int)) + (t : Int)) = ((k.toNat * R.ns + t : Nat) : Int) := by
      intro t ht
      have := flat_w (s := (t : Int)) hk2 (by omega) hq.n17 hns4
      simpa using this
    generalize k.toNat = K at *
    generalize hD : (R.dk K).load im = D at *
    have hDl : ∀ t, D.lasts t = secOf im t := fun t => by rw [← hD]; rfl
    have hDc : ∀ t, D.cached t = none := fun t => by rw [← hD]; rfl
    refine wps_loop (fun s => ex fun t : Nat => ex fun sl : List Slc => ex fun cl : List Slc => pr (s = (t : Int) ∧ t ≤ R.ns ∧ sl.length = R.n * R.ns ∧ cl.length = R.n * R.ns) * H * seqp sl (mix (K * R.ns + t) (rlast (R.setD K D)) (rlast R)) * seqp cl (mix (K * R.ns + t) (rcach (R.setD K D)) (rcach R)) * own 1 l1 (sl.map vS) * own 1 l2 (cl.map vS) * own 1 l3 (bads R) * own 1 l4 (zv cs) * pc mb [.int .i64 R.n, .int .i64 R.ns, vS l1, vS l2, vS l3, vS l4, .int .i64 R.count, .bool R.off]) (fun s => (R.ns - s).toNat) ?_ fun s => ?_
    · refine ent_ex 0 (ent_ex sl (ent_ex cl ?_))
      refine ent_swap (A := seqp sl (rlast R)) (B := seqp sl (mix (K * R.ns + 0) (rlast (R.setD K D)) (rlast R))) (seqp_ext fun i _ => ?_) ?_
      · simp only [mix]; split
        · rename_i h; exact ((setD_other (before_k h)).1).symm
        · rfl
      refine ent_swap (A := seqp cl (rcach R)) (B := seqp cl (mix (K * R.ns + 0) (rcach (R.setD K D)) (rcach R))) (seqp_ext fun i _ => ?_) ?_
      · simp only [mix]; split
        · rename_i h; exact ((setD_other (before_k h)).2).symm
        · rfl
      repeat first | (with_reducible refine ent_pick ?_) | (refine ent_prq ?_)
      all_goals first | exact ⟨rfl, by omega, hq.hsl, hq.hcl⟩ | trivial
    · refine wps_ex fun t => wps_ex fun sl => wps_ex fun cl => wps_prP fun ⟨hs, ht, hsl, hcl⟩ => ?_
      repeat first | (with_reducible refine wps_nil ?_) | (refine wps_ld _ (by rfl) ?_)
      refine wps_ite (fun hc => ?_) (fun hc => ?_)
      · have hlt : t < R.ns := by simp only [decide_eq_true_eq] at hc; omega
        have hset := setD_at (R := R) (k := K) (D := D) hlt
        have hm : K * R.ns + t < R.n * R.ns := by
          have h1 : (K + 1) * R.ns ≤ R.n * R.ns := Nat.mul_le_mul_right _ hkl
          rw [Nat.add_mul] at h1; omega
        have w5t := w5 t hlt
        subst hs
        repeat with_reducible refine wps_alloc fun _ => ?_
        rename_i b
        refine wps_swap (A := pc b (List.replicate 64 (Value.int .u8 0))) (B := own 1 ⟨some ⟨b, 0, none⟩, 64, 64⟩ (upTo im t 0)) (Ent.trans (pc_own (n := 64) (z := 1) (by simp)) (Ent.of_eq (by congr 1))) ?_
        refine wps_loop (fun s => ex fun i : Nat => pr (s = (i : Int) ∧ i ≤ 64) * H * seqp sl (mix (K * R.ns + t) (rlast (R.setD K D)) (rlast R)) * seqp cl (mix (K * R.ns + t) (rcach (R.setD K D)) (rcach R)) * own 1 l1 (sl.map vS) * own 1 l2 (cl.map vS) * own 1 l3 (bads R) * own 1 l4 (zv cs) * pc mb [.int .i64 R.n, .int .i64 R.ns, vS l1, vS l2, vS l3, vS l4, .int .i64 R.count, .bool R.off] * own 1 ⟨some ⟨b, 0, none⟩, 64, 64⟩ (upTo im t i)) (fun s => (64 - s).toNat) ?_ fun s => ?_
        · refine ent_ex 0 ?_
          repeat first | (with_reducible refine ent_pick ?_) | (refine ent_prq ?_)
          all_goals first | exact ⟨rfl, by omega⟩ | trivial
        · refine wps_ex fun i => wps_prP fun ⟨hs, hi⟩ => ?_
          have hw1 : s < 64 → w64 (w64 ((t : Int) * 64) + s) = ((t * 64 + i : Nat) : Int) := by
            intro h
            rw [w64_id (n := (t : Int) * 64) (by omega) (by omega), w64_id] <;> omega
          refine wps_val (v := decide (i < 64 ∧ t * 64 + i < im.length)) ?_ ?_
          · refine wps_ite (fun h => wps_pure (ent_val ?_)) (fun h => wps_pure (ent_val ?_))
            · have h' : s < 64 := by simpa using h
              rw [hw1 h', ← hl]
              have h1 : i < 64 := by omega
              by_cases h2 : t * 64 + i < im.length
              · simp [h1, h2]; omega
              · simp [h1, h2]; omega
            · have h' : ¬ s < 64 := by simpa using h
              have h1 : ¬ i < 64 := by omega
              simp [h1]
          · refine wps_ite (fun h => ?_) (fun h => ?_)
            · obtain ⟨h1, h2⟩ : i < 64 ∧ t * 64 + i < im.length := by simpa using h
              rw [hw1 (by omega)]
              refine wps_rd (t * 64 + i) im[t * 64 + i] (Ent.trans (ent_drop (B := H)) hx) rfl (by simp [bv]) ?_
              refine wps_wrS i hs (by exact h1) (wps_pure ?_)
              refine ent_prr (by rw [range_add1 hs (by omega)]; omega) (ent_ex (i + 1) ?_)
              refine ent_pickS (by rw [← upTo_set im t h1]; simp [List.getD_eq_getElem?_getD, List.getElem?_eq_getElem h2]) ?_
              repeat first | (with_reducible refine ent_pick ?_) | (refine ent_prq ?_)
              all_goals first | exact ⟨range_add1 hs (by omega), by omega⟩ | trivial
            · have hend : i = 64 ∨ im.length ≤ t * 64 + i := by
                have : ¬ (i < 64 ∧ t * 64 + i < im.length) := by simpa using h
                omega
              rw [upTo_end hend]
              refine wps_mapR ?_
              refine wps_regionH ?_
              repeat first | (with_reducible refine wps_nil ?_) | (refine wps_ldI _ (by rfl) ?_)
              rw [w5t]
              refine wps_wrS (K * R.ns + t) rfl (by rw [hq.hl1]; exact hm) ?_
              refine wps_regionH ?_
              repeat first | (with_reducible refine wps_nil ?_) | (refine wps_ldI _ (by rfl) ?_)
              rw [w5t]
              refine wps_wrS (K * R.ns + t) rfl (by rw [hq.hl2]; exact hm) (wps_pure ?_)
              refine ent_prr (by (try dsimp only); rw [range_add1 rfl (by omega)]; omega) (ent_ex (t + 1) (ent_ex (sl.set (K * R.ns + t) ⟨some ⟨b, 0, none⟩, 64, 64⟩) (ent_ex (cl.set (K * R.ns + t) nilS) ?_)))
              refine ent_pick (ent_pick (ent_pick (ent_pickS (by rw [List.map_set]; rfl) (ent_pickS (by rw [List.map_set]; rfl) ?_))))
              refine ent_swap (A := seqp cl (mix (K * R.ns + t) (rcach (R.setD K D)) (rcach R))) (B := seqp (cl.set (K * R.ns + t) nilS) (mix (K * R.ns + t + 1) (rcach (R.setD K D)) (rcach R))) (seqp_mix (Ent.refl _) (Ent.trans (ent_emp _) (by rw [hset.2, hDc]; exact rsl_nil 1))) ?_
              refine ent_pick ?_
              refine ent_swap (A := own 1 ⟨some ⟨b, 0, none⟩, 64, 64⟩ (bv (secOf im t))) (B := byt ⟨some ⟨b, 0, none⟩, 64, 64⟩ (secOf im t)) (own_rsl _ _ _) ?_
              refine ent_join (A := seqp sl (mix (K * R.ns + t) (rlast (R.setD K D)) (rlast R))) (B := byt ⟨some ⟨b, 0, none⟩, 64, 64⟩ (secOf im t)) (C := seqp (sl.set (K * R.ns + t) ⟨some ⟨b, 0, none⟩, 64, 64⟩) (mix (K * R.ns + t + 1) (rlast (R.setD K D)) (rlast R))) (seqp_mix (ent_left _ _) (Ent.trans (ent_right _ _) (Ent.of_eq (by rw [hset.1, hDl])))) ?_
              repeat first | (with_reducible refine ent_pick ?_) | (refine ent_prq ?_)
              all_goals first | exact ⟨range_add1 rfl (by omega), by omega, by simpa using hsl, by simpa using hcl⟩ | trivial
      · have hte : t = R.ns := by simp only [decide_eq_true_eq] at hc; omega
        refine wps_mapR (wps_pure ?_)
        refine ent_exr sl ?_
        refine ent_exr cl ?_
        refine ent_exr cs ?_
        simp only [← star_assoc]
        have hfd : D.failed = (R.dk K).failed := by rw [← hD]; rfl
        rw [bads_setD hfd]
        have hmm : K * R.ns + t = (K + 1) * R.ns := by rw [hte, Nat.add_mul]; omega
        rw [hmm]
        have ha : ∀ i, i < R.n * R.ns → ¬ i < (K + 1) * R.ns → i / R.ns ≠ K := fun i hi h => after_k (by omega) (Nat.pos_of_ne_zero fun h0 => by rw [h0] at hi; omega)
        refine ent_swap (A := seqp sl (mix ((K + 1) * R.ns) (rlast (R.setD K D)) (rlast R))) (B := seqp sl (rlast (R.setD K D))) (seqp_ext fun i hi => ?_) ?_
        · simp only [mix]; split
          · rfl
          · rename_i h; exact ((setD_other (ha i (by omega) h)).1).symm
        refine ent_swap (A := seqp cl (mix ((K + 1) * R.ns) (rcach (R.setD K D)) (rcach R))) (B := seqp cl (rcach (R.setD K D))) (seqp_ext fun i hi => ?_) ?_
        · simp only [mix]; split
          · rfl
          · rename_i h; exact ((setD_other (ha i (by omega) h)).2).symm
        refine ent_pickC (by rfl) ?_
        repeat first | (with_reducible refine ent_pick ?_) | (refine ent_prx ?_ ?_; rotate_left) | (refine ent_prq ?_)
        all_goals first | trivial | skip
        refine hq.setD (fun _ => ⟨fun q _ => by rw [hDl]; exact secOf_len im q, fun j b h => by rw [hDc] at h; cases h⟩) hfd (by rw [← hD]; rfl) hsl hcl
end Go.Proofs.Ytldmeimebebllaa
namespace Go.Proofs.Ytldmeimebebllaa
open Go.Mo
set_option linter.unusedVariables false
variable {g : Fr} {cv : CV}
def one (v : Int) : List Int := v :: List.replicate 63 0
theorem one_len (v : Int) : (one v).length = 64 := by simp [one]
end Go.Proofs.Ytldmeimebebllaa
namespace Go.Proofs.Ytldmeimebebllaa
open Go.Mo
set_option linter.unusedVariables false
variable {g : Fr} {cv : CV}
structure Wr (R : Rk) (sure : Nat → Int) (last : Nat → Option Int) : Prop where
  calm : Calm R
  n : R.n = 2
  ns : R.ns = 4
  lasts : ∀ j k : Nat, j < 2 → k < 4 → (R.dk j).lasts k = one (sure (j * 4 + k))
  cached : ∀ j k : Nat, j < 2 → k < 4 → (R.dk j).cached (k : Int) = (last (j * 4 + k)).map one
theorem Wr.new : Wr (Rk.new 2 4) (fun _ => 0) (fun _ => none) := ⟨Calm.new 2 4, rfl, rfl, fun _ _ _ _ => rfl, fun _ _ _ _ => rfl⟩
theorem Wr.put {R : Rk} {sure : Nat → Int} {last : Nat → Option Int} (h : Wr R sure last) {i : Nat} (hi : i < 8) (v : Int) :
    R.gate ((i / 4 : Nat) : Int) ((i % 4 : Nat) : Int) (one v).length = 0 ∧ Wr (R.write ((i / 4 : Nat) : Int) ((i % 4 : Nat) : Int) (one v)) sure (fun q => if q = i then some v else last q) := by
  have hw := h.calm.write (k := ((i / 4 : Nat) : Int)) (s := ((i % 4 : Nat) : Int)) (b := one v) (by rw [h.n]; omega) (by rw [h.ns]; omega) (one_len v)
  refine ⟨hw.1, ?_⟩
  rw [hw.2]
  refine ⟨h.calm.put _ _ _, h.n, h.ns, fun j k hj hk => ?_, fun j k hj hk => ?_⟩
  · simp only [Rk.put]
    split
    · exact h.lasts j k hj hk
    · exact h.lasts j k hj hk
  · simp only [Rk.put]
    by_cases hji : j = i / 4
    · rw [if_pos (by omega)]
      by_cases hki : k = i % 4
      · simp only [show (k : Int) = ((i % 4 : Nat) : Int) by omega, if_true]
        rw [if_pos (by omega)]; rfl
      · simp only [show ¬ (k : Int) = ((i % 4 : Nat) : Int) by omega, if_false]
        rw [if_neg (by omega)]
        exact h.cached j k hj hk
    · rw [if_neg (by omega), if_neg (by omega)]
      exact h.cached j k hj hk
theorem Wr.restore {R : Rk} {sure : Nat → Int} {last : Nat → Option Int} (h : Wr R sure last) (ks : List Int) {i : Nat} (hi : i < 8) :
    (R.restore ks).lst ((i / 4 : Nat) : Int) ((i % 4 : Nat) : Int) = one (if keepB ks (rank R i) = true then (last i).getD (sure i) else sure i) ∧ (R.restore ks).lErr ((i / 4 : Nat) : Int) ((i % 4 : Nat) : Int) = 0 := by
  have he : (R.restore ks).lErr ((i / 4 : Nat) : Int) ((i % 4 : Nat) : Int) = 0 := by
    rw [Rk.lErr, if_neg]
    show ¬ (_ ∨ _ ≥ (R.n : Int) ∨ _ ∨ _ ≥ (R.ns : Int))
    rw [h.n, h.ns]; omega
  refine ⟨?_, he⟩
  rw [Rk.lst, if_pos he]
  show (Dk.restored R ks ((i / 4 : Nat) : Int).toNat).lasts ((i % 4 : Nat) : Int).toNat = _
  rw [show ((i / 4 : Nat) : Int).toNat = i / 4 by omega, show ((i % 4 : Nat) : Int).toNat = i % 4 by omega]
  simp only [Dk.restored, Dk.clean, Dk.flushed, h.cached (i / 4) (i % 4) (by omega) (by omega), h.lasts (i / 4) (i % 4) (by omega) (by omega), h.calm.failed, h.ns]
  have h1 : i / 4 * 4 + i % 4 = i := by omega
  have h2 : ((i % 4 : Nat) : Int).toNat = i % 4 := by omega
  rw [h1, h2, h1]
  cases last i with
  | none => simp
  | some v => cases keepB ks (rank R i) <;> simp
end Go.Proofs.Ytldmeimebebllaa
namespace Go.Proofs.Ytldmeimebebllaa
open Go.Mo
set_option linter.unusedVariables false
variable {g : Fr} {cv : CV}
theorem Calm.setD {R : Rk} (h : Calm R) {k : Nat} {D : Dk} (hf : D.failed = false) (hc : D.count = -1) : Calm (R.setD k D) := by
  refine ⟨h.off, h.count, fun j => ?_, fun j => ?_⟩
  · simp only [Rk.setD]; split
    · exact hf
    · exact h.failed j
  · simp only [Rk.setD]; split
    · exact hc
    · exact h.counts j
theorem Calm.flush {R : Rk} (h : Calm R) {k : Int} (hk : 0 ≤ k ∧ k < R.n) (hs : 0 < R.ns) : R.gate k 0 64 = 0 ∧ R.flush k = R.setD k.toNat (((R.dk k.toNat).flushed fun _ => true).clean) ∧ Calm (R.flush k) := by
  have hg := h.gate hk (s := 0) (by omega)
  obtain ⟨_, _, _, _, hgd⟩ := gate_ok hg
  have he : R.flush k = R.setD k.toNat (((R.dk k.toNat).flushed fun _ => true).clean) := by rw [Rk.flush, if_pos hg, hgd, h.tick]
  refine ⟨hg, he, ?_⟩
  rw [he]
  exact h.setD (h.failed _) (h.counts _)
theorem Wr.flush {R : Rk} {sure : Nat → Int} {last : Nat → Option Int} (h : Wr R sure last) :
    R.gate 0 0 64 = 0 ∧ (R.flush 0).gate 1 0 64 = 0 ∧ Wr ((R.flush 0).flush 1) (fun q => (last q).getD (sure q)) (fun _ => none) := by
  have h1 := h.calm.flush (k := 0) (by rw [h.n]; omega) (by rw [h.ns]; omega)
  have hn1 := flush_n (R := R) 0
  have h2 := h1.2.2.flush (k := 1) (by rw [hn1.1, h.n]; omega) (by rw [hn1.2, h.ns]; omega)
  have hn2 := flush_n (R := R.flush 0) 1
  refine ⟨h1.1, h2.1, h2.2.2, by rw [hn2.1, hn1.1, h.n], by rw [hn2.2, hn1.2, h.ns], fun j k hj hk => ?_, fun j k hj hk => ?_⟩
  · rw [h2.2.1, h1.2.1]
    have hjj : j = 0 ∨ j = 1 := by omega
    rcases hjj with e | e <;> subst e
    · have hc := h.cached 0 k (by omega) hk
      have hl := h.lasts 0 k (by omega) hk
      simp only [Rk.setD, Dk.flushed, Dk.clean, Int.toNat_zero, show Int.toNat 1 = 1 from rfl, show ¬ (0 : Nat) = 1 by omega, if_false, if_true, hc, hl]
      cases last (0 * 4 + k) <;> rfl
    · have hc := h.cached 1 k (by omega) hk
      have hl := h.lasts 1 k (by omega) hk
      simp only [Rk.setD, Dk.flushed, Dk.clean, Int.toNat_zero, show Int.toNat 1 = 1 from rfl, show ¬ (1 : Nat) = 0 by omega, if_false, if_true, hc, hl]
      cases last (1 * 4 + k) <;> rfl
  · rw [h2.2.1, h1.2.1]
    have hjj : j = 0 ∨ j = 1 := by omega
    rcases hjj with e | e <;> subst e <;> simp [Rk.setD, Dk.clean]
theorem Wr.reads {R : Rk} {sure : Nat → Int} {last : Nat → Option Int} (h : Wr R sure last) (ks : List Int) {i : Nat} (hi : i < 8) :
    (R.restore ks).rd ((i / 4 : Nat) : Int) ((i % 4 : Nat) : Int) = one (if keepB ks (rank R i) = true then (last i).getD (sure i) else sure i) ∧ (R.restore ks).rdErr ((i / 4 : Nat) : Int) ((i % 4 : Nat) : Int) = 0 := by
  have h1 := h.restore ks hi
  have hr : ¬ (((i / 4 : Nat) : Int) < 0 ∨ ((i / 4 : Nat) : Int) ≥ ((R.restore ks).n : Int) ∨ ((i % 4 : Nat) : Int) < 0 ∨ ((i % 4 : Nat) : Int) ≥ ((R.restore ks).ns : Int)) := by
    show ¬ (_ ∨ _ ≥ (R.n : Int) ∨ _ ∨ _ ≥ (R.ns : Int))
    rw [h.n, h.ns]; omega
  have he : (R.restore ks).rdErr ((i / 4 : Nat) : Int) ((i % 4 : Nat) : Int) = 0 := by
    rw [Rk.rdErr, if_neg (by simp [Rk.restore]), if_neg hr, if_neg]
    show ¬ (R.dk _).failed = true
    simp [h.calm.failed]
  refine ⟨?_, he⟩
  rw [← h1.1, Rk.rd, if_pos he, Rk.lst, if_pos h1.2]
  rfl
end Go.Proofs.Ytldmeimebebllaa
namespace Go.Proofs.Ytldmeimebebllaa
open Go.Mo
set_option linter.unusedVariables false
variable {g : Fr} {cv : CV}
structure Pw (R : Rk) (N : Int) (i : Nat) : Prop where
  n : R.n = 1
  ns : R.ns = 2
  failed : (R.dk 0).failed = false
  count : (R.dk 0).count = -1
  on : (i : Int) ≤ N → R.off = false ∧ R.count = N - i
  off : N < i → R.off = true
theorem Pw.new {N : Int} (h : 0 ≤ N) : Pw ((Rk.new 1 2).arm N) N 0 := ⟨rfl, rfl, rfl, rfl, fun _ => ⟨rfl, by show maxI N (-1) = _; rw [maxI, if_neg (by omega)]; simp⟩, fun h' => by omega⟩
theorem Pw.step {R : Rk} {N : Int} {i : Nat} (h : Pw R N i) (hi : i < 1000) (hN : N < 9223372036854775808) {s : Int} (hs : 0 ≤ s ∧ s < 2) :
    R.gate 0 s 64 = (if (i : Int) < N then 0 else 12) ∧ Pw (R.gated 0 s 64) N (i + 1) := by
  have hr : ¬ ((0 : Int) < 0 ∨ (0 : Int) ≥ R.n ∨ s < 0 ∨ s ≥ R.ns) := by rw [h.n, h.ns]; omega
  by_cases h1 : (i : Int) ≤ N
  · obtain ⟨ho, hc⟩ := h.on h1
    have hgd : R.gated 0 s 64 = R.ticked := gated_in ho (by rw [h.n]; omega) (by rw [h.ns]; omega)
    have ho' : ¬ R.off = true := by simp [ho]
    rw [hgd]
    by_cases h2 : (i : Int) = N
    · have hc0 : R.count = 0 := by omega
      refine ⟨?_, ?_⟩
      · rw [Rk.gate, if_neg ho', if_neg hr, if_neg (by omega), if_pos hc0, if_neg (by omega)]
      · rw [Rk.ticked, if_pos hc0]
        exact ⟨h.n, h.ns, h.failed, h.count, fun h' => by omega, fun _ => rfl⟩
    · have hc0 : ¬ R.count = 0 := by omega
      have ht : R.ticked = { R with count := maxI (w64 (R.count - 1)) (-1), dk := fun j => (R.dk j).tick } := by rw [Rk.ticked, if_neg hc0]
      have hd : (R.dk 0).tick = R.dk 0 := tickD h.count
      refine ⟨?_, ?_⟩
      · rw [Rk.gate, if_neg ho', if_neg hr, if_neg (by omega), if_neg hc0, ht]
        show (if ((R.dk 0).tick).failed = true then (13 : Int) else 0) = _
        rw [hd, h.failed, if_neg (by simp), if_pos (by omega)]
      · rw [ht]
        refine ⟨h.n, h.ns, ?_, ?_, fun h' => ⟨ho, ?_⟩, fun h' => by omega⟩
        · show ((R.dk 0).tick).failed = false
          rw [hd, h.failed]
        · show ((R.dk 0).tick).count = -1
          rw [hd, h.count]
        · show maxI (w64 (R.count - 1)) (-1) = _
          rw [hc, w64_id (by omega) (by omega), maxI, if_neg (by omega)]; omega
  · have ho := h.off (by omega)
    refine ⟨?_, ?_⟩
    · rw [Rk.gate, if_pos ho, if_neg (by omega)]
    · rw [Rk.gated, if_pos (.inl ho)]
      exact ⟨h.n, h.ns, h.failed, h.count, fun h' => by omega, fun _ => ho⟩
theorem Pw.write {R : Rk} {N : Int} {i : Nat} (h : Pw R N i) (hi : i < 1000) (hN : N < 9223372036854775808) {s : Int} (hs : 0 ≤ s ∧ s < 2) {b : List Int} (hb : b.length = 64) :
    R.gate 0 s b.length = (if (i : Int) < N then 0 else 12) ∧ Pw (R.write 0 s b) N (i + 1) := by
  have hp := h.step hi hN hs
  rw [hb]
  refine ⟨hp.1, ?_⟩
  rw [Rk.write, hb]
  split
  · obtain ⟨a1, a2, a3, a4, a5, a6⟩ := hp.2
    refine ⟨a1, a2, ?_, ?_, a5, a6⟩
    · exact a3
    · exact a4
  · exact hp.2
theorem Pw.flush {R : Rk} {N : Int} {i : Nat} (h : Pw R N i) (hi : i < 1000) (hN : N < 9223372036854775808) :
    R.gate 0 0 64 = (if (i : Int) < N then 0 else 12) ∧ Pw (R.flush 0) N (i + 1) := by
  have hp := h.step hi hN (s := 0) (by omega)
  refine ⟨hp.1, ?_⟩
  rw [Rk.flush]
  split
  · obtain ⟨a1, a2, a3, a4, a5, a6⟩ := hp.2
    exact ⟨a1, a2, a3, a4, a5, a6⟩
  · exact hp.2
end Go.Proofs.Ytldmeimebebllaa
namespace Go.Proofs.Ytldmeimebebllaa
open Go.Mo
set_option linter.unusedVariables false
variable {g : Fr} {cv : CV}
theorem slotV_in (m : G3) (i : Nat) (hi : i < 3) : (slotV (3, 3, 12) m i).2 = true ∧ (slotV (3, 3, 12) m i).1 = (if m.2.2 ≠ 0 ∧ m.2.1 = i then 3 else (i : Int)) := by
  have h : ¬ ((i : Int) < 0 ∨ (i : Int) ≥ 3) := by omega
  simp only [slotV]
  rw [if_neg h]
  split <;> exact ⟨rfl, rfl⟩
theorem slot_range (m : G3) (i : Nat) (hi : i < 3) : 0 ≤ (slotV (3, 3, 12) m i).1 ∧ (slotV (3, 3, 12) m i).1 < 4 := by
  rw [(slotV_in m i hi).2]
  split <;> omega
end Go.Proofs.Ytldmeimebebllaa
namespace Go.Proofs.Ytldmeimebebllaa
open Go.Mo
set_option linter.unusedVariables false
variable {g : Fr} {cv : CV}
def rdisk (q m : G3) (slot : Int) : Int := if m.2.2 ≠ 0 ∧ m.2.1 = slot then q.1 else slot
theorem rdisk_slot {q m : G3} {slot : Int} (h : 0 ≤ slot ∧ slot < q.1) : slotV q m slot = (rdisk q m slot, true) := by
  simp only [slotV, rdisk]
  rw [if_neg (by omega)]
  split <;> rfl
theorem ref06_disk_val (yb mb : Nat) (q m : G3) (slot : Int) : Val g (bnk yb mb q m) (ref06_Bank_disk (ptr yb) slot) (rdisk q m slot) := by
  unfold ref06_Bank_disk
  simp only [Addr.add_add, Nat.reduceAdd]
  apply val_eq
  · repeat (first
      | (with_reducible refine wps_nil ?_)
      | (refine wps_ld _ (by rfl) ?_)
      | ((with_reducible apply wps_val); apply val_ite; rotate_left; refine fun (_ : ¬ _) => ?_; rotate_right; refine fun (_ : _ = true) => ?_)
      | ((with_reducible apply val_ite); rotate_left; refine fun (_ : ¬ _) => ?_; rotate_right; refine fun (_ : _ = true) => ?_)
      | (with_reducible exact wps_pure (ent_val rfl)))
  · simp only [rdisk]
    by_cases h3 : m.2.2 = 0
    · simp [h3]
    · by_cases h4 : m.2.1 = slot
      · simp [h3, h4]
      · simp [h3, h4]
theorem ref06_Read_spec (yb mb : Nat) (q m : G3) (R : Rk) (l1 l2 l3 l4 : Slc) (slot s : Int) :
    wps g (bnk yb mb q m * refQ mb R l1 l2 l3 l4) (ref06_Bank_Read (ptr yb) slot s) (fun x =>
      pr (x.2 = if (slotV q m slot).2 then R.rdErr (slotV q m slot).1 s else 11) * bnk yb mb q m * refQ mb R l1 l2 l3 l4 * own 1 x.1 (bv (if (slotV q m slot).2 then R.rd (slotV q m slot).1 s else []))) := by
  unfold ref06_Bank_Read
  refine wps_val (v := decide (slot < 0 ∨ slot ≥ q.1)) ?_ ?_
  · apply val_eq
    · repeat first | (with_reducible refine wps_nil ?_) | (refine wps_ld _ (by rfl) ?_) | ((with_reducible apply val_ite); rotate_left; refine fun (_ : ¬ _) => ?_; rotate_right; refine fun (_ : _ = true) => ?_) | (with_reducible exact wps_pure (ent_val rfl))
    · by_cases h : slot < 0 <;> simp [h]
  refine wps_ite (fun h => ?_) (fun h => ?_)
  · have hv : slotV q m slot = (0, false) := by simp only [decide_eq_true_eq] at h; simp only [slotV, if_pos h]
    rw [hv]
    simp only [Bool.false_eq_true, if_false]
    refine wps_pure ?_
    exact ent_own0 (ent_pick (ent_pick (ent_prq rfl)))
  · have hv := rdisk_slot (q := q) (m := m) (slot := slot) (by simp only [decide_eq_true_eq] at h; omega)
    rw [hv]
    simp only [if_true]
    refine wps_region (bnk yb mb q m) ent_pick1 ?_
    repeat first | (with_reducible refine wps_nil ?_) | (refine wps_ldI _ (by rfl) ?_)
    refine wps_stepVH (fun _ => ref06_disk_val yb mb q m slot) ?_
    refine wps_callH (fun _ => ref02_Read_spec mb R l1 l2 l3 l4 (rdisk q m slot) s) fun x => wps_pure ?_
    simp only [← star_assoc]
    exact ent_pick (ent_pick (ent_pick ent_drop))
theorem ref06_disks_spec (yb mb : Nat) (q m : G3) (hq : q.1 ≤ 16) :
    wps g (bnk yb mb q m) (ref06_Bank_disks (ptr yb)) (fun s => bnk yb mb q m * own 1 s (zv (disksL q m))) := by
  unfold ref06_Bank_disks
  simp only [Addr.add_add, Nat.reduceAdd]
  refine wps_alloc fun c => ?_
  refine wps_swap (A := pc c []) (B := own 1 ⟨some ⟨c, 0, none⟩, 0, 0⟩ []) (pc_own (n := 0) (z := 1) rfl) ?_
  refine wps_loop (fun t => ex fun n : Nat => pr (t.2 = (n : Int) ∧ (n : Int) ≤ max 0 q.1 ∧ t.1.len = n) * bnk yb mb q m * own 1 t.1 (zv ((List.range n).map fun i : Nat => (slotV q m i).1))) (fun t => (q.1 - t.2).toNat) ?_ fun t => ?_
  · refine ent_ex 0 ?_
    refine ent_pickS (by rfl) ?_
    repeat first | (with_reducible refine ent_pick ?_) | (refine ent_prq ?_)
    all_goals first | exact ⟨rfl, by omega, rfl⟩ | trivial
  · refine wps_ex fun n => wps_prP fun ⟨ht, hn, hl⟩ => ?_
    repeat first | (with_reducible refine wps_nil ?_) | (refine wps_ld _ (by rfl) ?_)
    refine wps_ite (fun hc => ?_) (fun hc => ?_)
    · have hc' : t.2 < q.1 := by simpa using hc
      have hv := rdisk_slot (q := q) (m := m) (slot := t.2) (by omega)
      have hv' : slotV q m (n : Int) = (rdisk q m t.2, true) := by rw [← ht]; exact hv
      refine wps_valH (fun _ => ref06_disk_val yb mb q m t.2) ?_
      refine wps_alloc fun x => ?_
      refine wps_app 1 [Value.int .i64 (rdisk q m t.2)] rfl (by decide) (rsl_pc rfl) (by simp [Value.oneCell']) (by (try dsimp only); omega) fun s' hs' => wps_pure ?_
      refine ent_prr (by rw [range_add1 ht (by omega)]; (try dsimp only); omega) (ent_ex (n + 1) ?_)
      have hs2 : s'.len = t.1.len + 1 := hs'
      refine ent_pickS (by rw [List.range_succ, List.map_append]; simp [zv, hv']) (ent_pick ?_)
      exact ent_prq ⟨range_add1 ht (by omega), by omega, by (try dsimp only); omega⟩
    · have hne : n = q.1.toNat := by simp only [decide_eq_true_eq] at hc; omega
      refine wps_mapR ?_
      repeat first | (with_reducible refine wps_nil ?_) | (refine wps_ld _ (by rfl) ?_)
      refine wps_ite (fun h0 => ?_) (fun h0 => ?_)
      · have h0' : m.2.2 = 0 := by simpa using h0
        repeat first | (with_reducible refine wps_nil ?_) | (with_reducible refine wps_alloc fun _ => ?_) | (refine wps_ld _ (by rfl) ?_)
        rename_i x
        refine wps_app 1 [Value.int .i64 q.1] rfl (by decide) (rsl_pc rfl) (by simp [Value.oneCell']) (by (try dsimp only); omega) fun s' hs' => wps_pure ?_
        refine ent_pickS (by unfold disksL; rw [if_pos h0', hne]; simp [zv]) ?_
        exact ent_drop
      · have h0' : ¬ m.2.2 = 0 := by simpa using h0
        refine wps_pure ?_
        refine ent_pickS (by unfold disksL; rw [if_neg h0', hne]; simp) ent_drop
theorem ref06_Flush_spec (yb mb : Nat) (q m : G3) (hq : q.1 ≤ 16) (R : Rk) (l1 l2 l3 l4 : Slc) :
    wps g (bnk yb mb q m * refQ mb R l1 l2 l3 l4) (ref06_Bank_Flush (ptr yb)) (fun e => pr (e = (flushL (disksL q m) R).2) * bnk yb mb q m * refQ mb (flushL (disksL q m) R).1 l1 l2 l3 l4) := by
  unfold ref06_Bank_Flush
  refine wps_callH (fun _ => ref06_disks_spec yb mb q m hq) fun d => ?_
  simp only [← star_assoc]
  have h17 := disksL_len q m hq
  refine wps_fact (Ent.trans (ent_pick1 (A := own 1 d (zv (disksL q m)))) (own_len _ _ _)) fun ⟨hl, _⟩ => ?_
  have hl2 : d.len = (disksL q m).length := by simp [zv] at hl; omega
  refine wps_loop (fun st => ex fun i : Nat => ex fun R' : Rk => pr (st = (i : Int) ∧ i ≤ (disksL q m).length ∧ flushL (disksL q m) R = flushL ((disksL q m).drop i) R') * bnk yb mb q m * own 1 d (zv (disksL q m)) * refQ mb R' l1 l2 l3 l4) (fun st => (17 - st).toNat) ?_ fun st => ?_
  · refine ent_ex 0 (ent_ex R ?_)
    repeat first | (with_reducible refine ent_pick ?_) | (refine ent_prq ?_)
    all_goals first | exact ⟨rfl, by omega, rfl⟩ | trivial
  · refine wps_ex fun i => wps_ex fun R' => wps_prP fun ⟨hi, hn, hR⟩ => ?_
    refine wps_ite (fun hc => ?_) (fun hc => ?_)
    · have hlt : i < (disksL q m).length := by simp only [decide_eq_true_eq] at hc; omega
      have hget : (disksL q m)[i]? = some (disksL q m)[i] := List.getElem?_eq_getElem hlt
      refine wps_region (bnk yb mb q m * own 1 d (zv (disksL q m))) (ent_pick ent_pick1) ?_
      refine wps_nil ?_
      refine wps_ldI (ptr mb) (by rfl) ?_
      refine wps_rdI i (disksL q m)[i] (Ent.trans (ent_right _ _) (own_rsl _ _ _)) (ent_pick ent_pick1) hi (by simp [zv, hget]) ?_
      rw [drop_cons hget, flushL] at hR
      refine wps_callH (fun _ => ref02_Flush_spec mb R' l1 l2 l3 l4 (disksL q m)[i]) fun e => ?_
      simp only [← star_assoc]
      refine wps_prP fun he => ?_
      subst he
      refine wps_ite (fun h12 => ?_) (fun h12 => ?_)
      · have h12' : R'.gate (disksL q m)[i] 0 64 = 12 := by simpa using h12
        rw [if_pos h12'] at hR
        refine wps_mapR (wps_pure ?_)
        rw [hR]
        refine ent_pick (ent_pick (ent_prq rfl))
      · have h12' : ¬ R'.gate (disksL q m)[i] 0 64 = 12 := by simpa using h12
        rw [if_neg h12'] at hR
        refine wps_pure (ent_prr (by rw [range_add1 hi (by omega)]; omega) (ent_ex (i + 1) (ent_ex (R'.flush (disksL q m)[i]) ?_)))
        repeat first | (with_reducible refine ent_pick ?_) | (refine ent_prq ?_)
        all_goals first | exact ⟨range_add1 hi (by omega), by omega, hR⟩ | trivial
    · have hie : i = (disksL q m).length := by simp only [decide_eq_true_eq] at hc; omega
      rw [hie, List.drop_length, flushL] at hR
      refine wps_mapR (wps_pure ?_)
      rw [hR]
      refine ent_pick (ent_pick (ent_prq rfl))
theorem allL_snoc (s : Int) (xs : List Int) (x : Int) (R : Rk) : allL s (xs ++ [x]) R = allL s xs R ++ if R.rdErr x s = 0 then [R.rd x s] else [] := by
  by_cases h : R.rdErr x s = 0 <;> simp [allL, h]
theorem ref06_All_spec (yb mb : Nat) (q m : G3) (hq : q.1 ≤ 16) (R : Rk) (l1 l2 l3 l4 : Slc) (s : Int) :
    wps g (bnk yb mb q m * refQ mb R l1 l2 l3 l4) (ref06_Bank_All (ptr yb) s) (fun t => bnk yb mb q m * refQ mb R l1 l2 l3 l4 * rows t (allL s (disksL q m) R)) := by
  unfold ref06_Bank_All
  refine wps_alloc fun c => ?_
  refine wps_swap (A := pc c []) (B := own 1 ⟨some ⟨c, 0, none⟩, 0, 0⟩ []) (pc_own (n := 0) (z := 1) rfl) ?_
  refine wps_callH (fun _ => ref06_disks_spec yb mb q m hq) fun d => ?_
  simp only [← star_assoc]
  have h17 := disksL_len q m hq
  refine wps_fact (Ent.trans (ent_pick1 (A := own 1 d (zv (disksL q m)))) (own_len _ _ _)) fun ⟨hl, _⟩ => ?_
  have hl2 : d.len = (disksL q m).length := by simp [zv] at hl; omega
  have hal : ∀ i, (allL s ((disksL q m).take i) R).length ≤ 17 := fun i => by
    simp only [allL, List.length_map]
    have h1 := List.length_filter_le (fun d => R.rdErr d s == 0) ((disksL q m).take i)
    rw [List.length_take] at h1
    omega
  refine wps_loop (fun st => ex fun i : Nat => ex fun sl : List Slc => pr (st.2 = (i : Int) ∧ i ≤ (disksL q m).length ∧ sl.length = (allL s ((disksL q m).take i) R).length ∧ st.1.len = sl.length) * bnk yb mb q m * own 1 d (zv (disksL q m)) * refQ mb R l1 l2 l3 l4 * seqp sl (fun j => (allL s ((disksL q m).take i) R).getD j []) * own 1 st.1 (sl.map vS)) (fun st => (17 - st.2).toNat) ?_ fun st => ?_
  · refine ent_ex 0 (ent_ex [] ?_)
    refine ent_pickS (by rfl) (ent_pers ?_ (seqp_nil _ _))
    repeat first | (with_reducible refine ent_pick ?_) | (refine ent_prq ?_)
    all_goals first | exact ⟨rfl, by omega, by simp [allL], rfl⟩ | trivial
  · refine wps_ex fun i => wps_ex fun sl => wps_prP fun ⟨hi, hn, hsl, htl⟩ => ?_
    have hal1 := hal i
    refine wps_ite (fun hc => ?_) (fun hc => ?_)
    · have hlt : i < (disksL q m).length := by simp only [decide_eq_true_eq] at hc; omega
      have hget : (disksL q m)[i]? = some (disksL q m)[i] := List.getElem?_eq_getElem hlt
      have htake : (disksL q m).take (i + 1) = (disksL q m).take i ++ [(disksL q m)[i]] := by rw [List.take_add_one, hget]; rfl
      refine wps_region (bnk yb mb q m * own 1 d (zv (disksL q m))) (ent_pick ent_pick1) ?_
      refine wps_nil ?_
      refine wps_ldI (ptr mb) (by rfl) ?_
      refine wps_rdI i (disksL q m)[i] (Ent.trans (ent_right _ _) (own_rsl _ _ _)) (ent_pick ent_pick1) hi (by simp [zv, hget]) ?_
      refine wps_callH (fun _ => ref02_Read_spec mb R l1 l2 l3 l4 (disksL q m)[i] s) fun e => ?_
      simp only [← star_assoc]
      refine wps_prP fun he => ?_
      refine wps_ite (fun h0 => ?_) (fun h0 => ?_)
      · have h0' : R.rdErr (disksL q m)[i] s = 0 := by rw [← he]; simpa using h0
        have hall : allL s ((disksL q m).take (i + 1)) R = allL s ((disksL q m).take i) R ++ [R.rd (disksL q m)[i] s] := by
          rw [htake, allL_snoc]; simp [h0']
        refine wps_alloc fun x => ?_
        refine wps_app 1 [vS e.1] rfl (by decide) (rsl_pc rfl) (by simp [Value.oneCell', vS]) (by (try dsimp only); omega) fun t2 ht2 => wps_pure ?_
        have ht3 : t2.len = st.1.len + 1 := ht2
        refine ent_prr (by rw [range_add1 hi (by omega)]; (try dsimp only); omega) (ent_ex (i + 1) (ent_ex (sl ++ [e.1]) ?_))
        rw [hall]
        refine ent_pickS (by simp) ?_
        refine ent_swap (A := own 1 e.1 (bv (R.rd (disksL q m)[i] s))) (B := byt e.1 (R.rd (disksL q m)[i] s)) (own_rsl _ _ _) ?_
        refine ent_join (A := seqp sl fun j => (allL s ((disksL q m).take i) R).getD j []) (B := byt e.1 (R.rd (disksL q m)[i] s)) (seqp_snocL hsl) ?_
        repeat first | (with_reducible refine ent_pick ?_) | (refine ent_prq ?_)
        all_goals first | exact ⟨range_add1 hi (by omega), by omega, by simp [hsl], by simp [ht3, htl]⟩ | trivial
      · have h0' : ¬ R.rdErr (disksL q m)[i] s = 0 := by rw [← he]; simpa using h0
        have hall : allL s ((disksL q m).take (i + 1)) R = allL s ((disksL q m).take i) R := by
          rw [htake, allL_snoc]; simp [h0']
        refine wps_pure (ent_prr (by rw [range_add1 hi (by omega)]; (try dsimp only); omega) (ent_ex (i + 1) (ent_ex sl ?_)))
        rw [hall]
        repeat first | (with_reducible refine ent_pick ?_) | (refine ent_prq ?_)
        all_goals first | exact ⟨range_add1 hi (by omega), by omega, hsl, htl⟩ | trivial
    · have hie : i = (disksL q m).length := by simp only [decide_eq_true_eq] at hc; omega
      rw [hie, List.take_length] at hsl ⊢
      refine wps_mapR (wps_pure ?_)
      refine ent_exr sl ?_
      simp only [← star_assoc]
      refine ent_pickS (by rfl) (ent_pick (ent_prx ⟨hsl, by omega⟩ ?_))
      repeat first | (with_reducible exact ent_drop) | (with_reducible refine ent_pick ?_)
theorem ref06_Bad_spec (yb mb : Nat) (q m : G3) (hq : q.1 ≤ 16) (R : Rk) (l1 l2 l3 l4 : Slc) :
    wps g (bnk yb mb q m * refQ mb R l1 l2 l3 l4) (ref06_Bank_Bad (ptr yb)) (fun s => bnk yb mb q m * refQ mb R l1 l2 l3 l4 * own 1 s (iv (badL q m R))) := by
  unfold ref06_Bank_Bad
  simp only [Addr.add_add, Nat.reduceAdd]
  refine wps_alloc fun c => ?_
  refine wps_swap (A := pc c []) (B := own 1 ⟨some ⟨c, 0, none⟩, 0, 0⟩ []) (pc_own (n := 0) (z := 1) rfl) ?_
  refine wps_loop (fun t => ex fun n : Nat => pr (t.2 = (n : Int) ∧ (n : Int) ≤ max 0 q.1) * bnk yb mb q m * refQ mb R l1 l2 l3 l4 * own 1 t.1 (iv ((List.range n).filter (isBad q m R)))) (fun t => (q.1 - t.2).toNat) ?_ fun t => ?_
  · refine ent_ex 0 (ent_pickS (by rfl) ?_)
    repeat first | (with_reducible refine ent_pick ?_) | (refine ent_prq ?_)
    all_goals first | exact ⟨rfl, by omega⟩ | trivial
  · refine wps_ex fun n => wps_prP fun ⟨ht, hn⟩ => ?_
    repeat first | (with_reducible refine wps_nil ?_) | (refine wps_ld _ (by rfl) ?_)
    refine wps_ite (fun hc => ?_) (fun hc => ?_)
    · have hc' : t.2 < q.1 := by simpa using hc
      have hv := rdisk_slot (q := q) (m := m) (slot := t.2) (by omega)
      have hf : (List.range (n + 1)).filter (isBad q m R) = (List.range n).filter (isBad q m R) ++ if isBad q m R n then [n] else [] := by
        rw [List.range_succ, List.filter_append]
        by_cases h : isBad q m R n = true <;> simp [h]
      have hib : isBad q m R n = (R.failedB (rdisk q m t.2) || (m.2.2 == 1 && m.2.1 == t.2)) := by
        unfold isBad; rw [← ht, hv]
      refine wps_bindV (u := isBad q m R n) ?_ ?_
      · refine wps_region (bnk yb mb q m) ent_pick1 ?_
        refine wps_nil ?_
        refine wps_ldI (ptr mb) (by rfl) ?_
        refine wps_stepVH (fun _ => ref06_disk_val yb mb q m t.2) ?_
        refine wps_stepVH (fun _ => ref02_Failed_val mb R l1 l2 l3 l4 (rdisk q m t.2)) ?_
        rw [hib]
        by_cases h1 : R.failedB (rdisk q m t.2) = true
        · rw [if_pos h1]
          exact wps_pure (ent_prr (by simp [h1]) (Ent.refl _))
        · rw [if_neg h1]
          refine wps_nil ?_
          refine wps_ldI m.2.2 (by rfl) ?_
          by_cases h2 : m.2.2 = 1
          · rw [if_pos (by simpa using h2)]
            refine wps_nil ?_
            refine wps_ldI m.2.1 (by rfl) ?_
            exact wps_pure (ent_prr (by simp [h1, h2]) (Ent.refl _))
          · rw [if_neg (by simpa using h2)]
            exact wps_pure (ent_prr (by simp [h1, h2]) (Ent.refl _))
      · refine wps_ite (fun hb => ?_) (fun hb => ?_)
        · refine wps_fact (Ent.trans (ent_pick1 (A := own 1 t.1 (iv ((List.range n).filter (isBad q m R))))) (own_len _ _ _)) fun ⟨hl, _⟩ => ?_
          have hl2 : t.1.len ≤ n := by
            have := List.length_filter_le (isBad q m R) (List.range n)
            simp only [iv, List.length_map, List.length_range] at hl this
            omega
          refine wps_alloc fun c => ?_
          refine wps_app 1 [Value.int .i64 t.2] rfl (by decide) (rsl_pc rfl) (by simp [Value.oneCell']) (by (try dsimp only); omega) fun s' hs' => wps_pure ?_
          refine ent_prr (by rw [range_add1 ht (by omega)]; (try dsimp only); omega) (ent_ex (n + 1) ?_)
          refine ent_pickS (by rw [hf, if_pos hb, ht]; simp [iv]) (ent_pick (ent_pick ?_))
          exact ent_prq ⟨range_add1 ht (by omega), by omega⟩
        · refine wps_pure ?_
          refine ent_prr (by rw [range_add1 ht (by omega)]; (try dsimp only); omega) (ent_ex (n + 1) ?_)
          refine ent_pickS (by rw [hf, if_neg hb]; simp [iv]) (ent_pick (ent_pick ?_))
          exact ent_prq ⟨range_add1 ht (by omega), by omega⟩
    · have hc' : ¬ t.2 < q.1 := by simpa using hc
      have hnq : (List.range n).filter (isBad q m R) = badL q m R := by
        unfold badL; congr 2; omega
      rw [hnq]
      refine wps_mapR (wps_pure ?_)
      exact ent_pick (ent_pick ent_drop)
end Go.Proofs.Ytldmeimebebllaa
namespace Go.Proofs.Ytldmeimebebllaa
open Go.Mo
set_option linter.unusedVariables false
variable {g : Fr} {cv : CV}
structure CallA where
  what : Int
  disk : Int
  n : Int
  ds : Slc
  data : List Int
  ks : Slc
  keeps : List Int
def CallA.cells (c : CallA) : List Value := [.int .i64 c.what, .int .i64 c.disk, .int .i64 c.n, .slice c.ds.base c.ds.len c.ds.cap, .slice c.ks.base c.ks.len c.ks.cap]
def CallA.t (c : CallA) : Int × Int × Int × Slc × Slc := (c.what, c.disk, c.n, c.ds, c.ks)
structure CallA.ok (c : CallA) : Prop where
  n : c.n < 9223372036854775808
  data : c.data.length ≤ 140737488355328
  keeps : c.keeps.length ≤ 140737488355328
instance (mb : Nat) (R : Rk) (l1 l2 l3 l4 : Slc) : RdC mb (refQ mb R l1 l2 l3 l4) [.int .i64 R.n, .int .i64 R.ns, vS l1, vS l2, vS l3, vS l4, .int .i64 R.count, .bool R.off] :=
  ⟨ex_ent fun sl => ex_ent fun cl => ex_ent fun cs => Ent.trans (ent_right _ _) (pc_ro _ _)⟩
end Go.Proofs.Ytldmeimebebllaa
namespace Go.Proofs.Ytldmeimebebllaa
open Go.Mo
set_option linter.unusedVariables false
variable {g : Fr} {cv : CV}
structure Rk.good (R : Rk) : Prop where
  ok : ∀ j, j < R.n → (R.dk j).ok R.ns
theorem dskAt_ok {ns p : Nat} {D : Dk} : Ent (dskAt ns p D) (pr (D.ok ns)) := ex_ent fun ls => ex_ent fun mb => ex_ent fun sl => ex_ent fun sc => fun o ho => by
  have := ent_left _ _ o (ent_left _ _ o (ent_left _ _ o (ent_left _ _ o ho)))
  exact this.2.2
theorem rackP_good {rb : Nat} {R : Rk} {ds : Slc} {ps : List Nat} : Ent (rackP rb R ds ps) (pr R.good) := fun o ho => ⟨fun j hj => by
  rw [rackP_focus rb R ds ps hj] at ho
  exact dskAt_ok o (ent_right _ _ o ho)⟩
theorem refQ_good {mb : Nat} {R : Rk} {l1 l2 l3 l4 : Slc} : Ent (refQ mb R l1 l2 l3 l4) (pr R.good) := ex_ent fun sl => ex_ent fun cl => ex_ent fun cs => fun o ho => by
  have h : RQ R l1 l2 l3 l4 sl cl cs := ent_left _ _ o (ent_left _ _ o (ent_left _ _ o (ent_left _ _ o (ent_left _ _ o (ent_left _ _ o (ent_left _ _ o ho))))))
  exact ⟨h.ok⟩
theorem Rk.good.rd {R : Rk} (h : R.good) (k s : Int) : (R.rd k s).length ≤ 64 := by
  rw [Rk.rd]
  split
  · rename_i he
    have hx : ¬ R.off = true ∧ ¬ (k < 0 ∨ k ≥ R.n ∨ s < 0 ∨ s ≥ R.ns) := by
      unfold Rk.rdErr at he
      by_cases ho : R.off = true
      · rw [if_pos ho] at he; cases he
      · rw [if_neg ho] at he
        refine ⟨ho, fun hr => ?_⟩
        rw [if_pos hr] at he; cases he
    have hok := h.ok k.toNat (by omega)
    unfold Dk.sec
    cases hc : (R.dk k.toNat).cached s with
    | some b => have := (hok.2 s b hc).1; simp only; omega
    | none => have := hok.1 s.toNat (by omega); simp only; omega
  · simp
theorem Rk.good.lst {R : Rk} (h : R.good) (k s : Int) : (R.lst k s).length ≤ 64 := by
  rw [Rk.lst]
  split
  · rename_i he
    have hx : ¬ (k < 0 ∨ k ≥ R.n ∨ s < 0 ∨ s ≥ R.ns) := by
      intro hr
      rw [Rk.lErr, if_pos hr] at he; cases he
    have := (h.ok k.toNat (by omega)).1 s.toNat (by omega)
    omega
  · simp
end Go.Proofs.Ytldmeimebebllaa
namespace Go.Proofs.Ytldmeimebebllaa
open Go.Mo
set_option linter.unusedVariables false
variable {g : Fr} {cv : CV}
theorem wps_stepQ2 {α β : Type} {H : HP} {Q : α → HP} {R : HP} {m : M β} {k : β → M α} {A1 A2 H1 H2 : HP} {Q' : β → HP} [h1 : Has H A2 H1] [h2 : Has H1 A1 H2] (hs : ∀ g', wps g' (A1 * A2) m Q') (hR : ∀ x, Ent (H2 * Q' x) R) (h' : ∀ x, wps g (H2 * Q' x) (k x) Q) : wps g H (bindM (stepI (Iv g R) m) k) Q :=
  wps_bind (wps_stepI (wps_tail2 hs fun x => Ent.refl _) hR) h'
structure CallB where
  what : Int
  slot : Int
  n : Int
  ds : Slc
  data : List Int
  mem : G3
def CallB.cells (c : CallB) : List Value := [.int .i64 c.what, .int .i64 c.slot, .int .i64 c.n, .slice c.ds.base c.ds.len c.ds.cap, .int .i64 c.mem.1, .int .i64 c.mem.2.1, .int .i64 c.mem.2.2]
def CallB.t (c : CallB) : Int × Int × Int × Slc × Int × Int × Int := (c.what, c.slot, c.n, c.ds, c.mem.1, c.mem.2.1, c.mem.2.2)
structure CallB.ok (c : CallB) : Prop where
  n : c.n < 9223372036854775808
  data : c.data.length ≤ 140737488355328
theorem bank_Off_val (bb rb : Nat) (q m : G3) (R : Rk) (ds : Slc) (ps : List Nat) : Val g (bnk bb rb q m * rackP rb R ds ps) (bank_Bank_Off (ptr bb)) R.off := by
  unfold bank_Bank_Off
  repeat first | (with_reducible refine wps_nil ?_) | (refine wps_ld _ (by rfl) ?_)
  refine wps_tailH (fun _ => device_Rack_Off_val rb R ds ps) fun x => ?_
  refine ent_prP fun h => ?_
  refine ent_prr h ?_
  simp only [← star_assoc]
  repeat first | (with_reducible exact ent_drop) | (with_reducible refine ent_pick ?_)
theorem badL_len (q m : G3) (R : Rk) (hq : q.1 ≤ 16) : (badL q m R).length ≤ 16 := by
  have := List.length_filter_le (isBad q m R) (List.range q.1.toNat)
  unfold badL
  rw [List.length_range] at this
  omega
theorem iv_zv (l : List Nat) : iv l = zv (l.map fun i : Nat => (i : Int)) := by simp [iv, zv]
end Go.Proofs.Ytldmeimebebllaa
namespace Go.Proofs.Ytldmeimebebllaa
open Go.Mo
set_option linter.unusedVariables false
variable {g : Fr} {cv : CV}
def Byts (b : List Int) : Prop := ∀ n ∈ b, 0 ≤ n ∧ n < 256
theorem Byts.app {a b : List Int} (ha : Byts a) (hb : Byts b) : Byts (a ++ b) := fun n hn => (List.mem_append.1 hn).elim (ha n) (hb n)
theorem Byts.take {b : List Int} (h : Byts b) (k : Nat) : Byts (b.take k) := fun n hn => h n (List.mem_of_mem_take hn)
theorem Byts.drop {b : List Int} (h : Byts b) (k : Nat) : Byts (b.drop k) := fun n hn => h n (List.mem_of_mem_drop hn)
theorem Byts.get {b : List Int} (h : Byts b) {k : Nat} (hk : k < b.length) : 0 ≤ b[k] ∧ b[k] < 256 := h _ (List.getElem_mem hk)
theorem Byts.rep (k : Nat) : Byts (List.replicate k 0) := fun n hn => by
  rw [List.mem_replicate] at hn; omega
theorem strB_list (ns : List Int) : (strB ns).toList = ns.map fun n => UInt8.ofNat n.toNat := by
  have key : ∀ (ns : List Int) (r : ByteArray), (ns.foldl (fun r n => r.push (UInt8.ofNat n.toNat)) r).data.toList = r.data.toList ++ ns.map fun n => UInt8.ofNat n.toNat := by
    intro ns
    induction ns with
    | nil => intro r; simp
    | cons n ns ih =>
      intro r
      rw [List.foldl_cons, ih]
      simp [ByteArray.push]
  rw [Go.ByteArray.toList_eq, strB, key]
  simp
theorem strEq_dec {x y : List Int} (hx : Byts x) (hy : Byts y) : strEq (strB x) (strB y) = decide (x = y) := by
  have key : ∀ (x y : List Int), Byts x → Byts y → (x.map (fun n => UInt8.ofNat n.toNat) = y.map fun n => UInt8.ofNat n.toNat) → x = y := by
    intro x
    induction x with
    | nil => intro y _ _ h; cases y <;> simp at h; rfl
    | cons a x ih =>
      intro y hx hy h
      cases y with
      | nil => simp at h
      | cons b y =>
        simp only [List.map_cons, List.cons.injEq] at h
        have ha := hx a (by simp)
        have hb := hy b (by simp)
        have h1 := congrArg UInt8.toNat h.1
        simp only [UInt8.toNat_ofNat'] at h1
        rw [Nat.mod_eq_of_lt (by omega), Nat.mod_eq_of_lt (by omega)] at h1
        rw [ih y (fun n hn => hx n (by simp [hn])) (fun n hn => hy n (by simp [hn])) h.2]
        congr 1
        omega
  unfold strEq
  rw [strB_list, strB_list]
  by_cases h : x = y
  · simp [h]
  · rw [decide_eq_false h]
    exact beq_eq_false_iff_ne.2 fun e => h (key x y hx hy e)
theorem bytes_Equal_val {H : HP} {s t : Slc} {x y : List Int} (hx : Ent H (byt s x)) (hy : Ent H (byt t y)) (bx : Byts x) (bq : Byts y) : Val g H (bytes_Equal s t) (decide (x = y)) := by
  unfold bytes_Equal
  refine wps_bstr hx ?_
  refine wps_bstr hy ?_
  rw [strEq_dec bx bq]
  exact wps_pure (ent_pr rfl)
theorem byt_take {s : Slc} {b : List Int} {h : Nat} (hh : h ≤ s.len) : Ent (byt s b) (byt (subS 1 s 0 h) (b.take h)) := Ent.trans (rsl_sub (Nat.zero_le _) hh) (Ent.of_eq (by simp [byt, bv, List.map_take]))
theorem byt_drop {s : Slc} {b : List Int} {l : Nat} (hl : b.length = s.len) (hh : l ≤ s.len) : Ent (byt s b) (byt (subS 1 s l s.len) (b.drop l)) := Ent.trans (rsl_sub hh (Nat.le_refl _)) (Ent.of_eq (by
  have : (b.drop l).length ≤ s.len - l := by simp; omega
  simp only [byt, bv, Nat.mul_one]
  rw [← List.map_drop, ← List.map_take, List.take_of_length_le this]))
theorem byt_sub {s : Slc} {b : List Int} {l h : Nat} (h1 : l ≤ h) (hh : h ≤ s.len) : Ent (byt s b) (byt (subS 1 s l h) ((b.drop l).take (h - l))) := Ent.trans (rsl_sub h1 hh) (Ent.of_eq (by simp [byt, bv, List.map_take, List.map_drop]))
theorem subS_len (z : Nat) (s : Slc) (l h : Nat) : (subS z s l h).len = h - l := rfl
theorem bytes_HasPrefix_val {H : HP} {s t : Slc} {x y : List Int} (hx : Ent H (byt s x)) (hy : Ent H (byt t y)) (bx : Byts x) (bq : Byts y) : Val g H (bytes_HasPrefix s t) (decide (y.length ≤ x.length ∧ x.take y.length = y)) := by
  unfold bytes_HasPrefix
  refine wps_fact (len_of hx) fun hlx => ?_
  refine wps_fact (len_of hy) fun hly => ?_
  refine wps_fact (cap_of hx) fun hcx => ?_
  refine wps_val ?_ (wps_pure (ent_pr rfl))
  refine wps_ite (fun h => ?_) (fun h => ?_)
  · have h' : y.length ≤ x.length := by simp only [decide_eq_true_eq] at h; omega
    refine wps_slice 0 t.len rfl rfl (Nat.zero_le _) (by omega) ?_
    refine wps_val (bytes_Equal_val (x := x.take t.len) (y := y) (Ent.trans hx (byt_take (by omega))) hy (bx.take _) bq) ?_
    refine wps_pure (ent_prr ?_ (Ent.refl _))
    rw [← hly]
    simp [h']
  · have h' : ¬ y.length ≤ x.length := by simp only [decide_eq_true_eq] at h; omega
    exact wps_pure (ent_prr (by simp [h']) (Ent.refl _))
theorem byt_base {s : Slc} {b : List Int} (h : s.base = none) : Ent (byt s b) (pr (b = [] ∧ s.len = 0)) := fun o ho => by
  rcases ho with ho | ⟨ad, all, ho⟩
  · exact ⟨by simpa [bv] using ho.2, ho.1⟩
  · have := (ent_left _ _ o ho).1
    rw [h] at this; cases this
theorem bytes_Clone_spec {H : HP} {s : Slc} {b : List Int} (hx : Ent H (byt s b)) (hb : b.length ≤ 1099511627776) : wps g H (bytes_Clone s) (fun t => H * own 1 t (bv b)) := by
  unfold bytes_Clone
  refine wps_fact (len_of hx) fun hl => ?_
  refine wps_ite (fun h => ?_) (fun h => ?_)
  · have hn : s.base = none := by simpa using h
    refine wps_fact (Ent.trans hx (byt_base hn)) fun ⟨h1, _⟩ => ?_
    subst h1
    refine wps_pure (ent_own0 (Ent.refl _))
  · refine wps_alloc fun c => ?_
    refine wps_swap (A := pc c []) (B := own 1 ⟨some ⟨c, 0, none⟩, 0, 0⟩ []) (pc_own (n := 0) (z := 1) rfl) ?_
    refine wps_app 1 (bv b) rfl (by decide) (Ent.trans (ent_left _ _) hx) (by simp [bv, Value.oneCell']) (by (try dsimp only); omega) fun s' hs' => wps_pure ?_
    rw [List.nil_append]
    repeat with_reducible exact ent_drop
def zx : List Int → List Int → List Int
  | a :: xs, b :: ys => bXor .u8 a b :: zx xs ys
  | xs, [] => xs
  | [], _ => []
theorem zx_nil (a : List Int) : zx a [] = a := by cases a <;> rfl
theorem nil_zx (b : List Int) : zx [] b = [] := by cases b <;> rfl
theorem zx_len : ∀ (a b : List Int), (zx a b).length = a.length
  | [], b => by rw [nil_zx]
  | a :: xs, [] => rfl
  | a :: xs, b :: ys => by simp [zx, zx_len xs ys]
theorem zx_step : ∀ (a b : List Int) (i : Nat) (hi : i < b.length) (hb : i < a.length), (zx a (b.take i))[i]? = a[i]? ∧ (zx a (b.take i)).set i (bXor .u8 a[i] b[i]) = zx a (b.take (i + 1))
  | a :: xs, b :: ys, 0, _, _ => by cases xs <;> simp [zx, zx_nil, nil_zx]
  | a :: xs, b :: ys, i + 1, hi, ha => by
    have := zx_step xs ys i (by simpa using hi) (by simpa using ha)
    simp [zx, this]
  | [], _, _, _, h => by simp at h
  | _, [], _, h, _ => by simp at h
def xorB (a b : List Int) : List Int := if a.length < b.length then zx b a else zx a b
theorem zx_spec {H : HP} {s t : Slc} {a b : List Int} (hs : Ent H (byt s a)) (ht : Ent H (byt t b)) (hab : b.length ≤ a.length) (hl : a.length ≤ 1099511627776) (K : Slc → M Slc)
    (hK : K = fun x16 => loopM (fun (s2 : (Int)) =>
  (if (decide (s2 < ((t.len : Nat) : Int))) = true then
    bindM (idxM t s2 1) fun x22 =>
      bindM (ld (Value.int .u8) x22) fun x23 =>
      bindM (idxM x16 s2 1) fun x26 =>
      bindM (ld (Value.int .u8) x26) fun x27 =>
      bindM (idxM x16 s2 1) fun x30 =>
      bindM (st x30 (.int .u8 (bXor .u8 x27 x23))) fun _ =>
      pureM (.inl (w64 (s2 + 1)))
    else
    mapR (pureM x16))) 0) : wps g H (bindM (bytes_Clone s) K) (fun u => H * own 1 u (bv (zx a b))) := by
  subst hK
  refine wps_fact (len_of hs) fun hls => ?_
  refine wps_fact (len_of ht) fun hlt => ?_
  refine wps_bind1 (bytes_Clone_spec hs hl) fun u => ?_
  refine wps_fact (Ent.trans (ent_pick1 (A := own 1 u (bv a))) (own_len _ _ _)) fun ⟨hlu, _⟩ => ?_
  have hlu' : a.length = u.len := by simpa [bv] using hlu
  refine wps_loop (fun st => ex fun i : Nat => pr (st = (i : Int) ∧ i ≤ b.length) * H * own 1 u (bv (zx a (b.take i)))) (fun st => (b.length - st).toNat) ?_ fun st => ?_
  · refine ent_ex 0 ?_
    rw [List.take_zero, zx_nil]
    refine ent_pick (Ent.trans (ent_pr ⟨rfl, by omega⟩) (Ent.of_eq rfl))
  · refine wps_ex fun i => ?_
    rw [star_assoc]
    refine wps_pr fun ⟨hi, hn⟩ => ?_
    refine wps_ite (fun hc => ?_) (fun hc => ?_)
    · have hlt' : i < b.length := by simp only [decide_eq_true_eq] at hc; omega
      obtain ⟨z1, z2⟩ := zx_step a b i hlt' (by omega)
      refine wps_rd i b[i] (Ent.trans (ent_left _ _) ht) hi (by simp [bv, List.getElem?_eq_getElem hlt']) ?_
      refine wps_rdS i a[i] hi (by rw [bv, List.getElem?_map, z1, List.getElem?_eq_getElem (by omega)]; rfl) ?_
      refine wps_wrS i hi (by omega) (wps_pure ?_)
      refine ent_prr (by rw [range_add1 hi (by omega)]; omega) (ent_ex (i + 1) ?_)
      refine ent_pickS ?_ (Ent.trans (ent_pr ⟨range_add1 hi (by omega), by omega⟩) (Ent.of_eq rfl))
      rw [← z2]; simp [bv, List.map_set]
    · have hie : i = b.length := by simp only [decide_eq_true_eq] at hc; omega
      rw [hie, List.take_length]
      exact wps_mapR (wps_pure (Ent.refl _))
theorem bits_Xor_spec {H : HP} {s t : Slc} {a b : List Int} (hs : Ent H (byt s a)) (ht : Ent H (byt t b)) (ha : a.length ≤ 1099511627776) (hb : b.length ≤ 1099511627776) : wps g H (bits_Xor s t) (fun u => H * own 1 u (bv (xorB a b))) := by
  unfold bits_Xor
  refine wps_fact (len_of hs) fun hls => ?_
  refine wps_fact (len_of ht) fun hlt => ?_
  by_cases h : a.length < b.length
  · refine wps_bindV (u := (t, s)) (wps_ite (fun _ => wps_pure (ent_prr rfl (Ent.refl _))) (fun h' => absurd (by simp; omega) h')) ?_
    rw [xorB, if_pos h]
    exact zx_spec ht hs (by omega) hb _ rfl
  · refine wps_bindV (u := (s, t)) (wps_ite (fun h' => absurd h' (by simp; omega)) (fun _ => wps_pure (ent_prr rfl (Ent.refl _)))) ?_
    rw [xorB, if_neg h]
    exact zx_spec hs ht (by omega) ha _ rfl
end Go.Proofs.Ytldmeimebebllaa
namespace Go.Proofs.Ytldmeimebebllaa
open Go.Mo
set_option linter.unusedVariables false
variable {g : Fr} {cv : CV}
def dg (n : Int) (j : Nat) : Int := n / (256 ^ j : Nat) % 256
theorem dg_rng (n : Int) (j : Nat) : 0 ≤ dg n j ∧ dg n j < 256 := by unfold dg; omega
theorem dg_eq {n : Int} (hn : 0 ≤ n) {j : Nat} (hj : j < 4) : IntKind.wrap .u8 (bShr .i64 n (w64 (8 * (j : Int)))) = dg n j := by
  have hw : w64 (8 * (j : Int)) = 8 * (j : Int) := w64_id (by omega) (by omega)
  rw [hw]
  have : ∀ k : Nat, k < 64 → n.fdiv (2 ^ k) = n / (2 ^ k) := fun k _ => by
    rw [Int.fdiv_eq_ediv_of_nonneg _ (Int.pow_nonneg (by decide))]
  have hmin : min (8 * (j : Int)).toNat IntKind.i64.bits = 8 * j := by
    have : IntKind.i64.bits = 64 := rfl
    rw [this]; omega
  unfold bShr dg
  rw [hmin, this _ (by omega)]
  have h2 : ((2 : Int) ^ (8 * j)) = ((256 ^ j : Nat) : Int) := by
    rw [Int.pow_mul]; simp
  rw [h2]
  simp [IntKind.wrap, IntKind.bits, IntKind.signed]
def putL (w : Nat) (n : Int) : List Int := (List.range w).map (dg n)
theorem putL_len (w : Nat) (n : Int) : (putL w n).length = w := by simp [putL]
theorem putL_byts (w : Nat) (n : Int) : Byts (putL w n) := fun x hx => by
  simp only [putL, List.mem_map] at hx
  obtain ⟨j, _, rfl⟩ := hx
  exact dg_rng n j
def fitsN (w : Nat) (n : Int) : Prop := 0 ≤ n ∧ n < (256 ^ w : Nat)
instance (w : Nat) (n : Int) : Decidable (fitsN w n) := by unfold fitsN; infer_instance
def putB (w : Nat) (n : Int) : List Int := if fitsN w n then putL w n else []
theorem shr_pos {n : Int} (hn : 0 ≤ n) {w : Nat} (hw : w ≤ 4) : decide (bShr .i64 n (w64 (8 * (w : Int))) > 0) = !decide (n < (256 ^ w : Nat)) := by
  have hw2 : w64 (8 * (w : Int)) = 8 * (w : Int) := w64_id (by omega) (by omega)
  rw [hw2]
  have hmin : min (8 * (w : Int)).toNat IntKind.i64.bits = 8 * w := by
    have : IntKind.i64.bits = 64 := rfl
    rw [this]; omega
  unfold bShr
  rw [hmin, Int.fdiv_eq_ediv_of_nonneg _ (Int.pow_nonneg (by decide))]
  have h2 : ((2 : Int) ^ (8 * w)) = ((256 ^ w : Nat) : Int) := by
    rw [Int.pow_mul]; simp
  rw [h2]
  have hp : (0 : Int) < ((256 ^ w : Nat) : Int) := by exact_mod_cast Nat.pow_pos (by decide)
  generalize ((256 ^ w : Nat) : Int) = M at *
  by_cases h : n < M
  · rw [decide_eq_true h, Int.ediv_eq_zero_of_lt hn h]; rfl
  · have : 1 ≤ n / M := Int.le_ediv_of_mul_le hp (by omega)
    have h3 : n / M > 0 := by omega
    simp [h, h3]
theorem bv_map_set {w i : Nat} (f f' : Nat → Int) (hi : i < w) (h : ∀ j, j ≠ i → f' j = f j) : (bv ((List.range w).map f)).set i (.int .u8 (f' i)) = bv ((List.range w).map f') := by
  apply List.ext_getElem?
  intro j
  simp only [bv, List.getElem?_set, List.getElem?_map, List.length_map, List.length_range]
  by_cases hj : i = j
  · subst hj; simp [hi]
  · rw [if_neg hj]
    by_cases hjw : j < w
    · rw [List.getElem?_range hjw]; simp [h j (fun e => hj e.symm)]
    · simp [List.getElem?_eq_none, Nat.le_of_not_lt hjw]
theorem zs_u8 (w : Nat) : zs [.int .u8 0] w = bv ((List.range w).map fun _ => 0) := by
  simp [zs, bv, Nat.mod_one]
theorem bits_Put_spec {H : HP} (w : Nat) (n : Int) (h1 : 1 ≤ w) (h4 : w ≤ 4) : wps g H (bits_Put w n) (fun s => H * own 1 s (bv (putB w n))) := by
  unfold bits_Put
  refine wps_val (v := false) (wps_ite (fun h => absurd h (by simp; omega)) (fun _ => wps_pure (ent_prr (by simp; omega) (Ent.refl _)))) ?_
  by_cases hn : 0 ≤ n
  rotate_left
  · have hf : ¬ fitsN w n := fun h => hn h.1
    rw [putB, if_neg hf]
    refine wps_val (v := true) (wps_ite (fun h => absurd h (by decide)) (fun _ => wps_pure (ent_prr (by simp; omega) (Ent.refl _)))) ?_
    refine wps_val (v := true) (wps_ite (fun _ => wps_pure (ent_val rfl)) (fun h => absurd rfl h)) ?_
    exact wps_ite (fun _ => wps_pure (ent_own0 (Ent.refl _))) (fun h => absurd rfl h)
  refine wps_val (v := false) (wps_ite (fun h => absurd h (by decide)) (fun _ => wps_pure (ent_prr (by simp; omega) (Ent.refl _)))) ?_
  refine wps_val (v := !decide (n < (256 ^ w : Nat))) (wps_ite (fun h => absurd h (by decide)) (fun _ => wps_assert (by rw [w64_id] <;> omega) (wps_pure (ent_prr (shr_pos hn h4) (Ent.refl _))))) ?_
  by_cases hm : n < (256 ^ w : Nat)
  rotate_left
  · have hf : ¬ fitsN w n := fun h => hm h.2
    rw [putB, if_neg hf, decide_eq_false hm]
    exact wps_ite (fun _ => wps_pure (ent_own0 (Ent.refl _))) (fun h => absurd rfl h)
  rw [show putB w n = putL w n from if_pos ⟨hn, hm⟩, decide_eq_true hm]
  refine wps_ite (fun h => absurd h (by decide)) (fun _ => ?_)
  refine wps_make w rfl (by omega) fun b => ?_
  refine wps_loop (fun st => ex fun i : Nat => pr (st = (i : Int) ∧ i ≤ w) * H * pc b (bv ((List.range w).map fun j => if j < i then dg n j else 0))) (fun st => (w - st).toNat) ?_ fun st => ?_
  · refine ent_ex 0 (ent_pickC ?_ (Ent.trans (ent_pr ⟨rfl, by omega⟩) (Ent.of_eq rfl)))
    rw [zs_u8]; simp
  · refine wps_ex fun i => ?_
    rw [star_assoc]
    refine wps_pr fun ⟨hi, hn2⟩ => ?_
    refine wps_ite (fun hc => ?_) (fun hc => ?_)
    · have hlt : i < w := by simp only [decide_eq_true_eq] at hc; omega
      refine wps_assert (by rw [w64_id] <;> omega) ?_
      refine wps_idx i rfl hi hlt ?_
      refine wps_st (by simp [bv]; omega) (wps_pure ?_)
      rw [hi, dg_eq hn (by omega)]
      refine ent_prr (by rw [range_add1 rfl (by omega)]; omega) (ent_ex (i + 1) (ent_pickC ?_ (Ent.trans (ent_pr ⟨range_add1 rfl (by omega), by omega⟩) (Ent.of_eq rfl))))
      rw [Nat.zero_add, Nat.mul_one]
      have := bv_map_set (w := w) (i := i) (fun j => if j < i then dg n j else 0) (fun j => if j < i + 1 then dg n j else 0) hlt (fun j hj => by
        have : j < i + 1 ↔ j < i := by omega
        simp [this])
      simpa using this
    · have hie : i = w := by simp only [decide_eq_true_eq] at hc; omega
      subst hie
      refine wps_mapR (wps_pure ?_)
      refine Ent.starr ?_
      have : (bv ((List.range i).map fun j => if j < i then dg n j else 0)) = bv (putL i n) := by
        unfold putL
        congr 1
        refine List.map_congr_left fun j hj => ?_
        rw [if_pos (by simpa using hj)]
      rw [this]
      exact pc_own (by simp [bv, putL])
end Go.Proofs.Ytldmeimebebllaa
namespace Go.Proofs.Ytldmeimebebllaa
open Go.Mo
set_option linter.unusedVariables false
variable {g : Fr} {cv : CV}
theorem bl (b : List Int) : (bv b).length = b.length := by simp [bv]
def padL (b : List Int) (n : Nat) : List Int := b ++ List.replicate (n - b.length) 0
theorem bits_Pad_spec {H : HP} {s : Slc} {b : List Int} (n : Nat) (hs : Ent H (byt s b)) (hn : n ≤ 65536) :
    wps g H (bits_Pad s n) (fun x => if b.length ≤ n then pr (x.2 = true) * H * own 1 x.1 (bv (padL b n)) else pr (x.2 = false) * H) := by
  unfold bits_Pad
  refine wps_fact (len_of hs) fun hl => ?_
  by_cases h : b.length ≤ n
  · simp only [h, if_true]
    refine wps_val (v := false) (wps_ite (fun h => absurd h (by simp; omega)) (fun _ => wps_pure (ent_prr (by simp; omega) (Ent.refl _)))) ?_
    refine wps_ite (fun h => absurd h (by decide)) (fun _ => ?_)
    refine wps_make n rfl (by omega) fun c => ?_
    refine wps_copyP (off := 0) (Ent.trans (ent_left _ _) hs) (by simp [bv, Value.oneCell']) (by simp [zs]) ?_
    refine wps_pure ?_
    rw [star_assoc]
    refine ent_prr rfl ?_
    refine Ent.starr ?_
    have hm : (bv b).take (min s.len n * 1) = bv b := List.take_of_length_le (by simp [bv]; omega)
    have e : ovw (zs [.int .u8 0] n) 0 ((bv b).take (min s.len n * 1)) = bv (padL b n) := by
      rw [hm, ovw, zs_u8]
      simp [padL, bv]
      apply List.ext_getElem?
      intro j
      simp [List.getElem?_map, List.getElem?_drop, List.getElem?_replicate]
      by_cases hj : j < n - b.length
      · rw [List.getElem?_range (by omega)]; simp [hj]
      · rw [List.getElem?_eq_none (by simp; omega)]; simp [hj]
    rw [e]
    exact pc_own (by simp [bv, padL]; omega)
  · simp only [h, if_false]
    refine wps_val (v := true) ?_ ?_
    · by_cases h2 : (n : Int) > 65536
      · exact absurd h2 (by omega)
      · exact wps_ite (fun h => absurd h (by simp; omega)) (fun _ => wps_pure (ent_prr (by simp; omega) (Ent.refl _)))
    · exact wps_ite (fun _ => wps_pure (ent_pr rfl)) (fun h => absurd rfl h)
end Go.Proofs.Ytldmeimebebllaa
namespace Go.Proofs.Ytldmeimebebllaa
open Go.Mo
set_option linter.unusedVariables false
variable {g : Fr} {cv : CV}
def encL (seq owner index : Int) (data : List Int) : List Int := putL 4 seq ++ putL 2 owner ++ putL 2 index ++ padL data 56
def encOk (seq owner index : Int) (data : List Int) : Prop := fitsN 4 seq ∧ fitsN 2 owner ∧ fitsN 2 index ∧ data.length ≤ 56
instance (seq owner index : Int) (data : List Int) : Decidable (encOk seq owner index data) := by unfold encOk; infer_instance
theorem encL_len {seq owner index : Int} {data : List Int} (h : data.length ≤ 56) : (encL seq owner index data).length = 64 := by
  simp [encL, putL_len, padL]; omega
theorem padL_byts {b : List Int} (h : Byts b) (n : Nat) : Byts (padL b n) := h.app (Byts.rep _)
theorem encL_byts {seq owner index : Int} {data : List Int} (h : Byts data) : Byts (encL seq owner index data) := (((putL_byts 4 seq).app (putL_byts 2 owner)).app (putL_byts 2 index)).app (padL_byts h 56)
theorem putB_len (w : Nat) (n : Int) : (putB w n).length = if fitsN w n then w else 0 := by
  unfold putB; split <;> simp [putL_len]
def getL : List Int → Int
  | [] => 0
  | b :: l => b + 256 * getL l
theorem getL_app : ∀ (l : List Int) (c : Int), getL (l ++ [c]) = getL l + (256 ^ l.length : Nat) * c
  | [], c => by simp [getL]
  | b :: l, c => by
    simp only [List.cons_append, getL, getL_app l c, List.length_cons, Nat.pow_succ]
    rw [Int.natCast_mul]
    generalize ((256 ^ l.length : Nat) : Int) = M
    have : M * ((256 : Nat) : Int) * c = 256 * (M * c) := by rw [Int.mul_comm M, Int.mul_assoc]; rfl
    omega
theorem getL_rng : ∀ {l : List Int}, Byts l → 0 ≤ getL l ∧ getL l < (256 ^ l.length : Nat)
  | [], _ => by simp [getL]
  | b :: l, h => by
    have h1 := h b (by simp)
    have h2 := getL_rng (l := l) fun x hx => h x (by simp [hx])
    simp only [getL, List.length_cons, Nat.pow_succ]
    rw [Int.natCast_mul]
    generalize ((256 ^ l.length : Nat) : Int) = M at *
    omega
theorem or_shl {n c : Int} {i : Nat} (hi : i < 4) (h0 : 0 ≤ n ∧ n < (256 ^ i : Nat)) (hc : 0 ≤ c ∧ c < 256) : bOr .i64 n (bShl .i64 (w64 c) (w64 (8 * (i : Int)))) = n + (256 ^ i : Nat) * c := by
  rw [w64_id (n := c) (by omega) (by omega), w64_id (n := 8 * (i : Int)) (by omega) (by omega)]
  obtain ⟨a, rfl⟩ : ∃ a : Nat, n = (a : Int) := ⟨n.toNat, by omega⟩
  obtain ⟨b, rfl⟩ : ∃ b : Nat, c = (b : Int) := ⟨c.toNat, by omega⟩
  have hmin : min (8 * (i : Int)).toNat IntKind.i64.bits = 8 * i := by
    have : IntKind.i64.bits = 64 := rfl
    rw [this]; omega
  have h256 : (256 : Nat) ^ i = 2 ^ (8 * i) := by rw [Nat.pow_mul]
  have hle : (256 : Nat) ^ i ≤ 256 ^ 3 := Nat.pow_le_pow_right (by decide) (by omega)
  have hb : b * 256 ^ i ≤ 255 * 256 ^ 3 := Nat.mul_le_mul (by omega) hle
  have hsh : bShl .i64 (b : Int) (8 * (i : Int)) = ((b * 256 ^ i : Nat) : Int) := by
    unfold bShl
    rw [hmin]
    have h2 : (b : Int) * 2 ^ (8 * i) = ((b * 256 ^ i : Nat) : Int) := by rw [h256, Int.natCast_mul, Int.natCast_pow]; rfl
    rw [h2]
    exact wrap_i64 (by omega) (by omega)
  rw [hsh]
  have ha : a < 256 ^ i := by exact_mod_cast h0.2
  unfold bOr
  have e1 : (BitVec.ofInt IntKind.i64.bits (a : Int)).toNat = a := by
    show (BitVec.ofInt 64 _).toNat = _
    rw [BitVec.toNat_ofInt]; omega
  have e2 : (BitVec.ofInt IntKind.i64.bits ((b * 256 ^ i : Nat) : Int)).toNat = b * 256 ^ i := by
    show (BitVec.ofInt 64 _).toNat = _
    rw [BitVec.toNat_ofInt]; omega
  rw [BitVec.toNat_or, e1, e2]
  have e3 : a ||| b * 256 ^ i = a + 256 ^ i * b := by
    rw [Nat.or_comm, Nat.mul_comm, h256, ← Nat.two_pow_add_eq_or_of_lt (by rw [← h256]; exact ha)]; omega
  rw [e3, wrap_i64]
  · rw [Int.natCast_add, Int.natCast_mul]
  · omega
  · rw [Nat.mul_comm] at hb
    have : (256 ^ i : Nat) * b + a < 4294967296 := by omega
    omega
def getB (b : List Int) (at' w : Nat) : Int := getL ((b.drop at').take w)
theorem bits_Get_val {H : HP} {s : Slc} {b : List Int} (p w : Nat) (hs : Ent H (byt s b)) (hb : Byts b) (h1 : 1 ≤ w) (h4 : w ≤ 4) (hp : p + w ≤ b.length) (hl : b.length ≤ 1099511627776) : Val g H (bits_Get s p w) (getB b p w, true) := by
  unfold bits_Get
  refine wps_fact (len_of hs) fun hls => ?_
  refine wps_fact (cap_of hs) fun hcs => ?_
  refine wps_val (v := false) (wps_ite (fun h => absurd h (by simp; omega)) (fun _ => wps_pure (ent_prr (by simp <;> omega) (Ent.refl _)))) ?_
  refine wps_val (v := false) (wps_ite (fun h => absurd h (by decide)) (fun _ => wps_pure (ent_prr (by simp <;> omega) (Ent.refl _)))) ?_
  refine wps_val (v := false) (wps_ite (fun h => absurd h (by decide)) (fun _ => wps_pure (ent_prr (by simp <;> omega) (Ent.refl _)))) ?_
  refine wps_val (v := false) (wps_ite (fun h => absurd h (by decide)) (fun _ => wps_pure (ent_prr (decide_eq_false (by rw [w64_id] <;> omega)) (Ent.refl _)))) ?_
  refine wps_ite (fun h => absurd h (by decide)) (fun _ => ?_)
  refine wps_slice p (p + w) rfl (by rw [show ((some (w64 ((p : Int) + (w : Int)))).getD (s.len : Int)) = w64 ((p : Int) + w) from rfl, w64_id] <;> omega) (by omega) (by omega) ?_
  have hsub : Ent H (byt (subS 1 s p (p + w)) ((b.drop p).take w)) := by
    have := Ent.trans hs (byt_sub (l := p) (h := p + w) (by omega) (by omega))
    rwa [show p + w - p = w by omega] at this
  have hsl : (subS 1 s p (p + w)).len = w := by rw [subS_len]; omega
  generalize subS 1 s p (p + w) = t at *
  have hxl : ((b.drop p).take w).length = w := by simp; omega
  have hxb : Byts ((b.drop p).take w) := (hb.drop p).take w
  unfold getB
  generalize (b.drop p).take w = x at *
  refine wps_loop (fun st => ex fun i : Nat => pr (st.2 = (i : Int) ∧ i ≤ w ∧ st.1 = getL (x.take i)) * H) (fun st => (w - st.2).toNat) (ent_ex 0 (ent_prr ⟨rfl, by omega, by simp [getL]⟩ (Ent.refl _))) fun st => ?_
  refine wps_ex fun i => wps_pr fun ⟨hi, hin, hv⟩ => ?_
  refine wps_ite (fun hc => ?_) (fun hc => ?_)
  · have hc1 := of_decide_eq_true hc
    rw [hsl] at hc1
    have hlt : i < x.length := by omega
    refine wps_rd i x[i] hsub hi (by simp [bv, List.getElem?_eq_getElem hlt]) ?_
    refine wps_assert (by rw [hi, w64_id] <;> omega) ?_
    have hr := getL_rng (hxb.take i)
    rw [List.length_take, Nat.min_eq_left (by omega)] at hr
    refine wps_pure (ent_prr (by rw [range_add1 hi (by omega)]; (try dsimp only); omega) (ent_ex (i + 1) (ent_prr ⟨range_add1 hi (by omega), by omega, ?_⟩ (Ent.refl _))))
    rw [hv, hi, or_shl (by omega) hr (hxb.get hlt), List.take_add_one, List.getElem?_eq_getElem hlt]
    show _ = getL (x.take i ++ [x[i]])
    rw [getL_app, List.length_take, Nat.min_eq_left (by omega)]
  · have hie : i = w := by
      have hc1 : ¬ (st.2 < ((t.len : Nat) : Int)) := fun h => hc (decide_eq_true h)
      rw [hsl] at hc1; omega
    rw [hie, List.take_of_length_le (by omega)] at hv
    refine wps_mapR (wps_pure (ent_prr ?_ (Ent.refl _)))
    rw [hv]
end Go.Proofs.Ytldmeimebebllaa
namespace Go.Proofs.Ytldmeimebebllaa
open Go.Mo
set_option linter.unusedVariables false
variable {g : Fr} {cv : CV}
def headOf (b : List Int) : G3 := if b.length = 64 then (getB b 0 4, getB b 4 2, getB b 6 2) else (0, 0, 0)
def payOf (b : List Int) : List Int := if b.length = 64 then b.drop 8 else []
theorem sector_Decode_spec {H : HP} {s : Slc} {b : List Int} (hs : Ent H (byt s b)) (hb : Byts b) (hl : b.length ≤ 1099511627776) :
    wps g H (sector_Decode s) (fun x => pr (x.1 = headOf b ∧ x.2.2 = decide (b.length = 64)) * H * own 1 x.2.1 (bv (payOf b))) := by
  unfold sector_Decode
  refine wps_fact (len_of hs) fun hls => ?_
  refine wps_fact (cap_of hs) fun hcs => ?_
  refine wps_alloc fun c => ?_
  by_cases h : b.length = 64
  rotate_left
  · refine wps_ite (fun _ => ?_) (fun h' => absurd (by simp; omega) h')
    refine wps_stA (by simp) (by simp [Value.oneCell']) ?_
    refine wps_ldG 0 0 0 (by rfl) (wps_pure ?_)
    rw [payOf, if_neg h, headOf, if_neg h]
    refine ent_own0 ?_
    refine Ent.trans (ent_left _ _) (ent_pr ?_)
    simp [h]
  refine wps_ite (fun h' => absurd h' (by simp; omega)) (fun _ => ?_)
  refine wps_alloc fun d => ?_
  have hH : Ent (H * pc c [.int .i64 0, .int .i64 0, .int .i64 0] * pc d [.int .i64 0, .int .i64 0, .int .i64 0]) (byt s b) := Ent.trans (ent_left _ _) (Ent.trans (ent_left _ _) hs)
  refine wps_val (bits_Get_val 0 4 hH hb (by decide) (by decide) (by omega) hl) ?_
  refine wps_st (by simp) ?_
  have hH : ∀ cs, Ent (H * pc c [.int .i64 0, .int .i64 0, .int .i64 0] * pc d cs) (byt s b) := fun cs => Ent.trans (ent_left _ _) (Ent.trans (ent_left _ _) hs)
  refine wps_val (bits_Get_val 4 2 (hH _) hb (by decide) (by decide) (by omega) hl) ?_
  refine wps_st (by simp) ?_
  refine wps_val (bits_Get_val 6 2 (hH _) hb (by decide) (by decide) (by omega) hl) ?_
  refine wps_st (by simp) ?_
  refine wps_eq (H' := H * pc c [.int .i64 0, .int .i64 0, .int .i64 0] * pc d [.int .i64 (getB b 0 4), .int .i64 (getB b 4 2), .int .i64 (getB b 6 2)]) rfl ?_
  refine wps_regionH ?_
  refine wps_ldGI (getB b 0 4) (getB b 4 2) (getB b 6 2) (by rfl) ?_
  refine wps_slice 8 s.len rfl rfl (by omega) hcs ?_
  refine wps_step1 (bytes_Clone_spec (Ent.trans (hH _) (byt_drop hls (by omega))) (by simp; omega)) fun t => ?_
  refine wps_stA (by simp) (by simp [Value.oneCell']) ?_
  refine wps_ldG (getB b 0 4) (getB b 4 2) (getB b 6 2) (by rfl) (wps_pure ?_)
  rw [payOf, if_pos h, headOf, if_pos h]
  refine ent_pick ?_
  refine Ent.trans (ent_left _ _) (Ent.trans (ent_left _ _) (ent_pr ?_))
  simp [h]
def parOk (ls : List (List Int)) : Prop := ls ≠ [] ∧ ∀ b ∈ ls, b.length = 64 ∧ b.take 4 = (ls.headD []).take 4
instance (ls : List (List Int)) : Decidable (parOk ls) := by unfold parOk; infer_instance
def parSum (ls : List (List Int)) : List Int := ls.foldl (fun acc b => xorB acc (b.drop 4)) []
def parL (ls : List (List Int)) : Option (List Int) := if parOk ls then some ((ls.headD []).take 4 ++ parSum ls) else none
theorem parSum_snoc (ls : List (List Int)) (b : List Int) : parSum (ls ++ [b]) = xorB (parSum ls) (b.drop 4) := by simp [parSum]
theorem parSum_len : ∀ {ls : List (List Int)} (n : Nat), (∀ i (h : i < n), i < ls.length → (ls[i]?.getD []).length = 64) → n ≤ ls.length → (parSum (ls.take n)).length = if n = 0 then 0 else 60
  | ls, 0, _, _ => by simp [parSum]
  | ls, n + 1, h, hn => by
    have ih := parSum_len (ls := ls) n (fun i hi => h i (by omega)) (by omega)
    have hb := h n (by omega) (by omega)
    rw [List.getElem?_eq_getElem (by omega)] at hb
    simp only [Option.getD_some] at hb
    rw [List.take_add_one, List.getElem?_eq_getElem (by omega)]
    show (parSum (ls.take n ++ [ls[n]'(by omega)])).length = _
    rw [parSum_snoc, xorB]
    have hd : ((ls[n]'(by omega)).drop 4).length = 60 := by simp; omega
    rw [if_neg (show ¬ n + 1 = 0 by omega)]
    split
    · rw [zx_len, hd]
    · rename_i hx
      rw [zx_len, ih]
      rw [ih, hd] at hx
      split at hx
      · omega
      · rename_i h0; rw [if_neg h0]
theorem sector_Parity_spec {H : HP} {s : Slc} {sl : List Slc} {ls : List (List Int)} (hs : Ent H (rsl 1 s (sl.map vS))) (hq : Ent H (seqp sl fun i => ls.getD i [])) (hl : sl.length = ls.length) (hk : ls.length ≤ 1099511627776) (hb : ∀ b ∈ ls, Byts b ∧ b.length ≤ 1099511627776) :
    wps g H (sector_Parity s) (fun x => pr (x.2 = (parL ls).isSome) * H * own 1 x.1 (bv ((parL ls).getD []))) := by
  unfold sector_Parity
  refine wps_fact (Ent.trans hs (rsl_len _ _ _)) fun hsl => ?_
  have hsl' : sl.length = s.len := by simpa using hsl
  have hpart : ∀ i (h : i < sl.length), Ent H (byt sl[i] (ls[i]'(by omega))) := fun i h o ho => by
    have := hq o ho i sl[i] (List.getElem?_eq_getElem h)
    simpa [List.getD_eq_getElem?_getD, List.getElem?_eq_getElem (show i < ls.length by omega)] using this
  have hbad : ¬ parOk ls → ∀ A : HP, Ent (H * A) (pr (false = (parL ls).isSome) * H * own 1 ⟨none, 0, 0⟩ (bv ((parL ls).getD []))) := fun h A => by
    rw [parL, if_neg h]
    exact ent_own0 (Ent.trans (ent_left _ _) (ent_pr rfl))
  have hbad0 : ¬ parOk ls → Ent H (pr (false = (parL ls).isSome) * H * own 1 ⟨none, 0, 0⟩ (bv ((parL ls).getD []))) := fun h => by
    rw [parL, if_neg h]
    exact ent_own0 (ent_pr rfl)
  by_cases h0 : ls.length = 0
  · have hno : ¬ parOk ls := fun h => h.1 (List.eq_nil_of_length_eq_zero h0)
    refine wps_val (v := true) (wps_ite (fun _ => wps_pure (ent_val rfl)) (fun h => absurd (by simp; omega) h)) ?_
    exact wps_ite (fun _ => wps_pure (hbad0 hno)) (fun h => absurd rfl h)
  have hz : 0 < sl.length := by omega
  have hzl : 0 < ls.length := by omega
  have hhead : ls.headD [] = ls[0] := by
    cases ls with
    | nil => simp at hzl
    | cons a l => rfl
  refine wps_fact (len_of (hpart 0 hz)) fun hl0 => ?_
  refine wps_fact (cap_of (hpart 0 hz)) fun hc0 => ?_
  refine wps_val (v := ((sl[0].len : Nat) : Int) != 64) (wps_ite (fun h => absurd h (by simp; omega)) (fun _ => wps_rd 0 sl[0] hs rfl (by simp [List.getElem?_eq_getElem hz]) (wps_pure (ent_val rfl)))) ?_
  by_cases h64 : ls[0].length = 64
  rotate_left
  · have hno : ¬ parOk ls := fun h => h64 (h.2 _ (List.getElem_mem hzl)).1
    exact wps_ite (fun _ => wps_pure (hbad0 hno)) (fun h => absurd (by simp; omega) h)
  refine wps_ite (fun h => absurd h (by simp; omega)) (fun _ => ?_)
  refine wps_rd 0 sl[0] hs rfl (by simp [List.getElem?_eq_getElem hz]) ?_
  refine wps_slice 0 4 rfl rfl (by omega) (by omega) ?_
  have hsq : Ent H (byt (subS 1 sl[0] 0 4) (ls[0].take 4)) := Ent.trans (hpart 0 hz) (byt_take (by omega))
  have hb0 := hb _ (List.getElem_mem hzl)
  generalize subS 1 sl[0] 0 4 = q at *
  refine wps_loop (fun st => ex fun i : Nat => pr (st.2 = (i : Int) ∧ i ≤ ls.length ∧ ∀ j (h : j < ls.length), j < i → ls[j].length = 64 ∧ ls[j].take 4 = ls[0].take 4) * (H * own 1 st.1 (bv (parSum (ls.take i))))) (fun st => (ls.length - st.2).toNat) ?_ fun st => ?_
  · exact ent_ex 0 (ent_prr ⟨rfl, by omega, fun j _ h => by omega⟩ (ent_own0 (Ent.refl _)))
  refine wps_ex fun i => wps_pr fun ⟨hi, hin, hall⟩ => ?_
  refine wps_ite (fun hc => ?_) (fun hc => ?_)
  · have hc1 := of_decide_eq_true hc
    have hlt : i < sl.length := by omega
    have hltl : i < ls.length := by omega
    have hbi := hb _ (List.getElem_mem hltl)
    have hno : (ls[i].length = 64 ∧ ls[i].take 4 = ls[0].take 4 → False) → ¬ parOk ls := fun h hp => h (by have := hp.2 _ (List.getElem_mem hltl); rwa [hhead] at this)
    refine wps_fact (Ent.trans (ent_left _ _) (len_of (hpart i hlt))) fun hpl => ?_
    refine wps_fact (Ent.trans (ent_left _ _) (cap_of (hpart i hlt))) fun hpc => ?_
    refine wps_rd i sl[i] (Ent.trans (ent_left _ _) hs) hi (by simp [List.getElem?_eq_getElem hlt]) ?_
    by_cases h6 : ls[i].length = 64
    rotate_left
    · refine wps_val (v := true) (wps_ite (fun _ => wps_pure (ent_val rfl)) (fun h => absurd (by simp; omega) h)) ?_
      exact wps_ite (fun _ => wps_mapR (wps_pure (hbad (hno fun h => h6 h.1) _))) (fun h => absurd rfl h)
    have h40 : (ls[0].take 4).length = 4 := by simp; omega
    refine wps_val (v := !decide ((ls[0].take 4).length ≤ ls[i].length ∧ ls[i].take (ls[0].take 4).length = ls[0].take 4)) (wps_ite (fun h => absurd h (by simp; omega)) (fun _ => wps_val (bytes_HasPrefix_val (Ent.trans (ent_left _ _) (hpart i hlt)) (Ent.trans (ent_left _ _) hsq) hbi.1 (hb0.1.take 4)) (wps_pure (ent_val rfl)))) ?_
    rw [h40]
    by_cases hpre : ls[i].take 4 = ls[0].take 4
    rotate_left
    · exact wps_ite (fun _ => wps_mapR (wps_pure (hbad (hno fun h => hpre h.2) _))) (fun h => absurd (by simp [hpre]) h)
    refine wps_ite (fun h => absurd h (by simp [hpre]; omega)) (fun _ => ?_)
    refine wps_slice 4 sl[i].len rfl rfl (by omega) hpc ?_
    have hdr : Ent H (byt (subS 1 sl[i] 4 sl[i].len) (ls[i].drop 4)) := Ent.trans (hpart i hlt) (byt_drop hpl (by omega))
    have hps := parSum_len (ls := ls) i (fun j hj hjl => by rw [List.getElem?_eq_getElem hjl]; exact (hall j hjl hj).1) (by omega)
    refine wps_bind (bits_Xor_spec (a := parSum (ls.take i)) (b := ls[i].drop 4) (Ent.trans (ent_right _ _) (own_rsl _ _ _)) (Ent.trans (ent_left _ _) hdr) (by rw [hps]; split <;> omega) (by simp; omega)) fun u => wps_pure ?_
    refine ent_prr (by rw [range_add1 hi (by omega)]; (try dsimp only); omega) (ent_ex (i + 1) (ent_prr ⟨range_add1 hi (by omega), by omega, fun j hj hji => ?_⟩ ?_))
    · by_cases hje : j = i
      · subst hje; exact ⟨h6, hpre⟩
      · exact hall j hj (by omega)
    · rw [List.take_add_one, List.getElem?_eq_getElem hltl]
      show Ent _ (H * own 1 u (bv (parSum (ls.take i ++ [ls[i]]))))
      rw [parSum_snoc]
      exact Ent.starl (ent_left _ _)
  · have hie : i = ls.length := by
      have hc1 : ¬ (st.2 < ((s.len : Nat) : Int)) := fun h => hc (decide_eq_true h)
      omega
    have hps := parSum_len (ls := ls) i (fun j hj hjl => by rw [List.getElem?_eq_getElem hjl]; exact (hall j hjl hj).1) (by omega)
    rw [hie, List.take_length] at hps ⊢
    have hok : parOk ls := ⟨fun h => h0 (by rw [h]; rfl), fun b hbm => by
      obtain ⟨j, hj, rfl⟩ := List.getElem_of_mem hbm
      rw [hhead]
      exact hall j hj (by omega)⟩
    refine wps_mapR ?_
    refine wps_bind1 (bytes_Clone_spec (Ent.trans (ent_left _ _) hsq) (by simp; omega)) fun u => ?_
    refine wps_fact (Ent.trans (ent_right _ _) (own_len _ _ _)) fun ⟨hul, _⟩ => ?_
    refine wps_fact (Ent.trans (ent_left _ _) (Ent.trans (ent_right _ _) (own_len _ _ _))) fun ⟨hvl, _⟩ => ?_
    rw [bl] at hul hvl
    have hu : (ls[0].take 4).length ≤ 4 := by simp; omega
    refine wps_app 1 (bv (parSum ls)) rfl (by decide) (Ent.trans (ent_left _ _) (Ent.trans (ent_right _ _) (own_rsl _ _ _))) (by simp [bv, Value.oneCell']) (by rw [hps] at hvl; split at hvl <;> omega) fun s' hs' => wps_pure ?_
    rw [parL, if_pos hok, hhead]
    refine ent_pickS (by simp [bv]) ?_
    refine Ent.trans (ent_left _ _) (ent_pr rfl)
end Go.Proofs.Ytldmeimebebllaa
namespace Go.Proofs.Ytldmeimebebllaa
open Go.Mo
set_option linter.unusedVariables false
variable {g : Fr} {cv : CV}
def rowOf (q : G3) (seg r : Int) : Int := seg * q.2.1 + r
def parSpot (q : G3) (seg r : Int) : Int × Int := (q.1 - 1 - rowOf q seg r % q.1, 5 + rowOf q seg r)
def blkSpot (q : G3) (seg k : Int) : Int × Int := ((q.1 - 1 - rowOf q seg (k / (q.1 - 1)) % q.1 + 1 + k % (q.1 - 1)) % q.1, 5 + rowOf q seg (k / (q.1 - 1)))
structure InS (q : G3) (seg : Int) : Prop where
  right : RightB q = true
  s0 : 0 ≤ seg
  s1 : seg < q.2.2
def parOkB (q : G3) (seg r : Int) : Bool := RightB q && (decide (0 ≤ seg ∧ seg ≤ q.2.2 - 1) && decide (0 ≤ r ∧ r ≤ q.2.1 - 1))
theorem rowOf_rng {q : G3} {seg r : Int} (h : InS q seg) (hr : 0 ≤ r ∧ r < q.2.1) : 0 ≤ rowOf q seg r ∧ rowOf q seg r < q.2.2 * q.2.1 := by
  have hb := RightB.bnd h.right
  unfold rowOf
  have h1 := hb.r1
  have h0 : 0 ≤ seg * q.2.1 := Int.mul_nonneg h.s0 (by omega)
  have h2 : seg * q.2.1 ≤ (q.2.2 - 1) * q.2.1 := Int.mul_le_mul_of_nonneg_right (by have := h.s1; omega) (by omega)
  rw [Int.sub_mul] at h2
  omega
theorem geo_Parity_val {H : HP} (q : G3) (seg r : Int) : Val g H (geo_Parity q seg r) (if parOkB q seg r then (parSpot q seg r, true) else ((0, 0), false)) := by
  unfold geo_Parity
  refine wps_alloc fun c => ?_
  refine wps_alloc fun d => ?_
  refine wps_ldG q.1 q.2.1 q.2.2 (by rfl) ?_
  refine wps_val (geo_Right_val q) ?_
  have bad : ∀ {K : Bool → M ((Int × Int) × Bool)}, (K = fun r2 => (if (r2) = true then
  bindM (stA ⟨d, 0, none⟩ [(.int .i64 0), (.int .i64 0)]) fun _ =>
    bindM (ldA (fun y : (Int × Int) => [(.int .i64 y.1), (.int .i64 y.2)]) ⟨d, 0, none⟩) fun r6 =>
    pureM ((r6.1, r6.2), false)
  else
  bindM (ld (Value.int .i64) (Addr.add ⟨c, 0, none⟩ 1)) fun x31 =>
    regionM fun S3 =>
    bindM (ldI S3 (Value.int .i64) ⟨c, 0, none⟩) fun x36 =>
    bindM (ldI S3 (Value.int .i64) ⟨c, 0, none⟩) fun x40 =>
    assertM (x40 ≠ 0) <|
    bindM (stA ⟨d, 0, none⟩ [(.int .i64 (w64 ((w64 (x36 - 1)) - (Int.tmod (w64 ((w64 (seg * x31)) + r)) x40)))), (.int .i64 (w64 (5 + (w64 ((w64 (seg * x31)) + r)))))]) fun _ =>
    bindM (ldA (fun y : (Int × Int) => [(.int .i64 y.1), (.int .i64 y.2)]) ⟨d, 0, none⟩) fun r6 =>
    pureM ((r6.1, r6.2), true))) → parOkB q seg r = false → wps g (H * pc c [.int .i64 q.1, .int .i64 q.2.1, .int .i64 q.2.2] * pc d [.int .i64 0, .int .i64 0]) (K true) fun x => pr (x = if parOkB q seg r then (parSpot q seg r, true) else ((0, 0), false)) * H := by
    intro K hK hno
    subst hK
    refine wps_ite (fun _ => ?_) (fun h => absurd rfl h)
    refine wps_stA (by simp) (by simp [Value.oneCell']) ?_
    refine wps_ldA (0, 0) (by rfl) (wps_pure (ent_prr ?_ ent_drop))
    rw [hno]; rfl
  by_cases h1 : RightB q = true
  rotate_left
  · have hno : parOkB q seg r = false := by simp [parOkB, h1]
    refine wps_val (v := true) (wps_ite (fun _ => wps_pure (ent_prr rfl (Ent.refl _))) (fun h => absurd (by simp [h1]) h)) ?_
    refine wps_val (v := true) (wps_ite (fun _ => wps_pure (ent_prr rfl (Ent.refl _))) (fun h => absurd rfl h)) ?_
    exact bad rfl hno
  have hb := RightB.bnd h1
  have b1 := hb.d3
  have b2 := hb.d16
  have b3 := hb.r1
  have b4 := hb.r4
  have b5 := hb.s12
  have b6 := hb.s64
  refine wps_val (v := !decide (0 ≤ seg ∧ seg ≤ q.2.2 - 1)) (wps_ite (fun h => absurd h (by simp [h1])) (fun _ => ?_)) ?_
  · refine wps_ld q.2.2 (by rfl) ?_
    rw [w64_id (n := q.2.2 - 1) (by omega) (by omega)]
    refine wps_val (geo_within_val _ _ _) (wps_pure (ent_prr rfl (Ent.refl _)))
  by_cases h2 : 0 ≤ seg ∧ seg ≤ q.2.2 - 1
  rotate_left
  · have hno : parOkB q seg r = false := by simp only [parOkB, decide_eq_false h2]; simp
    rw [decide_eq_false h2]
    refine wps_val (v := true) (wps_ite (fun _ => wps_pure (ent_prr rfl (Ent.refl _))) (fun h => absurd rfl h)) ?_
    exact bad rfl hno
  rw [decide_eq_true h2]
  refine wps_val (v := !decide (0 ≤ r ∧ r ≤ q.2.1 - 1)) (wps_ite (fun h => absurd h (by decide)) (fun _ => ?_)) ?_
  · refine wps_ld q.2.1 (by rfl) ?_
    rw [w64_id (n := q.2.1 - 1) (by omega) (by omega)]
    refine wps_val (geo_within_val _ _ _) (wps_pure (ent_prr rfl (Ent.refl _)))
  by_cases h3 : 0 ≤ r ∧ r ≤ q.2.1 - 1
  rotate_left
  · have hno : parOkB q seg r = false := by simp only [parOkB, decide_eq_false h3]; simp
    rw [decide_eq_false h3]
    exact bad rfl hno
  have hyes : parOkB q seg r = true := by simp [parOkB, h1, h2, h3]
  have hrw := rowOf_rng (q := q) (seg := seg) (r := r) ⟨h1, h2.1, by omega⟩ ⟨h3.1, by omega⟩
  have hsc := hb.sect.2
  rw [decide_eq_true h3]
  refine wps_ite (fun h => absurd h (by decide)) (fun _ => ?_)
  refine wps_ld q.2.1 (by rfl) ?_
  refine wps_regionH ?_
  refine wps_ldI q.1 (by rfl) ?_
  refine wps_ldI q.1 (by rfl) ?_
  refine wps_assert (by omega) ?_
  have hm0 : 0 ≤ seg * q.2.1 := Int.mul_nonneg h2.1 (by omega)
  have e1 : w64 (w64 (seg * q.2.1) + r) = rowOf q seg r := by
    unfold rowOf at hrw ⊢
    rw [w64_id (n := seg * q.2.1) (by omega) (by omega), w64_id (by omega) (by omega)]
  rw [e1]
  have e2 : Int.tmod (rowOf q seg r) q.1 = rowOf q seg r % q.1 := Int.tmod_eq_emod_of_nonneg hrw.1
  have e3 : 0 ≤ rowOf q seg r % q.1 ∧ rowOf q seg r % q.1 < q.1 := ⟨Int.emod_nonneg _ (by omega), Int.emod_lt_of_pos _ (by omega)⟩
  rw [e2, w64_id (n := q.1 - 1) (by omega) (by omega), w64_id (n := q.1 - 1 - _) (by omega) (by omega), w64_id (n := 5 + _) (by omega) (by omega)]
  refine wps_stA (by simp) (by simp [Value.oneCell']) ?_
  refine wps_ldA (parSpot q seg r) (by rfl) (wps_pure (ent_prr ?_ ent_drop))
  rw [hyes]; rfl
def blkOkB (q : G3) (seg k : Int) : Bool := RightB q && (decide (0 ≤ k ∧ k ≤ placesI q) && decide (0 ≤ seg ∧ seg ≤ q.2.2 - 1))
theorem row_of_k {q : G3} {k : Int} (h : RightB q = true) (hk : 0 ≤ k ∧ k ≤ placesI q) : 0 ≤ k / (q.1 - 1) ∧ k / (q.1 - 1) ≤ q.2.1 - 1 := by
  have hb := RightB.bnd h
  have b1 := hb.d3
  refine ⟨Int.ediv_nonneg hk.1 (by omega), ?_⟩
  have : k / (q.1 - 1) < q.2.1 := Int.ediv_lt_of_lt_mul (by omega) (by have := hk.2; unfold placesI at this; omega)
  omega
theorem geo_Block_val {H : HP} (q : G3) (seg k : Int) : Val g H (geo_Block q seg k) (if blkOkB q seg k then (blkSpot q seg k, true) else ((0, 0), false)) := by
  unfold geo_Block
  refine wps_alloc fun c => ?_
  refine wps_alloc fun d => ?_
  refine wps_ldG q.1 q.2.1 q.2.2 (by rfl) ?_
  refine wps_val (geo_Right_val q) ?_
  by_cases h1 : RightB q = true
  rotate_left
  · have hno : blkOkB q seg k = false := by simp [blkOkB, h1]
    refine wps_val (v := true) (wps_ite (fun _ => wps_pure (ent_prr rfl (Ent.refl _))) (fun h => absurd (by simp [h1]) h)) ?_
    refine wps_ite (fun _ => ?_) (fun h => absurd rfl h)
    refine wps_stA (by simp) (by simp [Value.oneCell']) ?_
    refine wps_ldA (0, 0) (by rfl) (wps_pure (ent_prr ?_ ent_drop))
    rw [hno]; rfl
  have hb := RightB.bnd h1
  have b1 := hb.d3
  have b2 := hb.d16
  have b3 := hb.r1
  have b4 := hb.r4
  have b5 := hb.s12
  have b6 := hb.s64
  refine wps_val (v := !decide (0 ≤ k ∧ k ≤ placesI q)) (wps_ite (fun h => absurd h (by simp [h1])) (fun _ => ?_)) ?_
  · refine wps_ldG q.1 q.2.1 q.2.2 (by rfl) ?_
    refine wps_val (geo_places_val q) ?_
    rw [hb.places.1]
    refine wps_val (geo_within_val _ _ _) (wps_pure (ent_prr rfl (Ent.refl _)))
  by_cases h2 : 0 ≤ k ∧ k ≤ placesI q
  rotate_left
  · have hno : blkOkB q seg k = false := by simp only [blkOkB, decide_eq_false h2]; simp
    rw [decide_eq_false h2]
    refine wps_ite (fun _ => ?_) (fun h => absurd rfl h)
    refine wps_stA (by simp) (by simp [Value.oneCell']) ?_
    refine wps_ldA (0, 0) (by rfl) (wps_pure (ent_prr ?_ ent_drop))
    rw [hno]; rfl
  have hpl : placesI q ≤ 59 := hb.places.2.2
  have hrk := row_of_k h1 h2
  rw [decide_eq_true h2]
  refine wps_ite (fun h => absurd h (by decide)) (fun _ => ?_)
  refine wps_regionH ?_
  refine wps_ldGI q.1 q.2.1 q.2.2 (by rfl) ?_
  refine wps_ldI q.1 (by rfl) ?_
  have e0 : w64 (q.1 - 1) = q.1 - 1 := w64_id (by omega) (by omega)
  rw [e0]
  refine wps_assert (by omega) ?_
  have e1 : w64 (Int.tdiv k (q.1 - 1)) = k / (q.1 - 1) := by rw [Int.tdiv_eq_ediv_of_nonneg h2.1, w64_id] <;> omega
  rw [e1]
  have hpv : parOkB q seg (k / (q.1 - 1)) = blkOkB q seg k := by simp only [parOkB, blkOkB, h1, decide_eq_true h2, decide_eq_true hrk]; simp
  -- what is done with the spot
  have tail : ∀ (e : Nat) (K : (Int × Int) × Bool → M ((Int × Int) × Bool)), (K = fun x29 => bindM (stA ⟨e, 0, none⟩ [(.int .i64 x29.1.1), (.int .i64 x29.1.2)]) fun _ =>
        (if (x29.2) = true then
        regionM fun S3 =>
          bindM (ldI S3 (Value.int .i64) ⟨e, 0, none⟩) fun x34 =>
          bindM (ldI S3 (Value.int .i64) ⟨c, 0, none⟩) fun x38 =>
          assertM ((w64 (x38 - 1)) ≠ 0) <|
          bindM (ldI S3 (Value.int .i64) ⟨c, 0, none⟩) fun x43 =>
          assertM (x43 ≠ 0) <|
          bindM (st ⟨e, 0, none⟩ (.int .i64 (Int.tmod (w64 ((w64 (x34 + 1)) + (Int.tmod k (w64 (x38 - 1))))) x43))) fun _ =>
          bindM (ldA (fun y : (Int × Int) => [(.int .i64 y.1), (.int .i64 y.2)]) ⟨e, 0, none⟩) fun x46 =>
          bindM (stA ⟨d, 0, none⟩ [(.int .i64 x46.1), (.int .i64 x46.2)]) fun _ =>
          bindM (ldA (fun y : (Int × Int) => [(.int .i64 y.1), (.int .i64 y.2)]) ⟨d, 0, none⟩) fun r6 =>
          pureM ((r6.1, r6.2), x29.2)
        else
        bindM (ldA (fun y : (Int × Int) => [(.int .i64 y.1), (.int .i64 y.2)]) ⟨e, 0, none⟩) fun x46 =>
          bindM (stA ⟨d, 0, none⟩ [(.int .i64 x46.1), (.int .i64 x46.2)]) fun _ =>
          bindM (ldA (fun y : (Int × Int) => [(.int .i64 y.1), (.int .i64 y.2)]) ⟨d, 0, none⟩) fun r6 =>
          pureM ((r6.1, r6.2), x29.2))) →
      wps g (H * pc c [.int .i64 q.1, .int .i64 q.2.1, .int .i64 q.2.2] * pc d [.int .i64 0, .int .i64 0] * pc e [.int .i64 0, .int .i64 0]) (K (if parOkB q seg (k / (q.1 - 1)) then (parSpot q seg (k / (q.1 - 1)), true) else ((0, 0), false))) fun x => pr (x = if blkOkB q seg k then (blkSpot q seg k, true) else ((0, 0), false)) * H := by
    intro e K hK
    subst hK
    rw [hpv]
    by_cases h3 : blkOkB q seg k = true
    · rw [if_pos h3]
      have h3' : 0 ≤ seg ∧ seg ≤ q.2.2 - 1 := by
        simp only [blkOkB, Bool.and_eq_true, decide_eq_true_eq] at h3; exact h3.2.2
      have hrw := rowOf_rng (q := q) (seg := seg) (r := k / (q.1 - 1)) ⟨h1, h3'.1, by omega⟩ ⟨hrk.1, by omega⟩
      have e3 : 0 ≤ rowOf q seg (k / (q.1 - 1)) % q.1 ∧ rowOf q seg (k / (q.1 - 1)) % q.1 < q.1 := ⟨Int.emod_nonneg _ (by omega), Int.emod_lt_of_pos _ (by omega)⟩
      have e4 : 0 ≤ k % (q.1 - 1) ∧ k % (q.1 - 1) < q.1 - 1 := ⟨Int.emod_nonneg _ (by omega), Int.emod_lt_of_pos _ (by omega)⟩
      refine wps_stA (by simp) (by simp [Value.oneCell']) ?_
      refine wps_ite (fun _ => ?_) (fun h => absurd rfl h)
      refine wps_regionH ?_
      refine wps_ldI (parSpot q seg (k / (q.1 - 1))).1 (by rfl) ?_
      refine wps_ldI q.1 (by rfl) ?_
      rw [e0]
      refine wps_assert (by omega) ?_
      refine wps_ldI q.1 (by rfl) ?_
      refine wps_assert (by omega) ?_
      have e5 : Int.tmod k (q.1 - 1) = k % (q.1 - 1) := Int.tmod_eq_emod_of_nonneg h2.1
      have e6 : (parSpot q seg (k / (q.1 - 1))).1 = q.1 - 1 - rowOf q seg (k / (q.1 - 1)) % q.1 := rfl
      rw [e5, e6, w64_id (n := q.1 - 1 - _ + 1) (by omega) (by omega), w64_id (n := _ + k % (q.1 - 1)) (by omega) (by omega), Int.tmod_eq_emod_of_nonneg (by omega)]
      refine wps_st (by simp [ovw]) ?_
      refine wps_ldA (blkSpot q seg k) (by rfl) ?_
      refine wps_stA (by simp) (by simp [Value.oneCell']) ?_
      refine wps_ldA (blkSpot q seg k) (by rfl) (wps_pure (ent_prr ?_ ent_drop))
      rw [if_pos h3]
    · rw [if_neg h3]
      refine wps_stA (by simp) (by simp [Value.oneCell']) ?_
      refine wps_ite (fun h => absurd h (by decide)) (fun _ => ?_)
      refine wps_ldA (0, 0) (by rfl) ?_
      refine wps_stA (by simp) (by simp [Value.oneCell']) ?_
      refine wps_ldA (0, 0) (by rfl) (wps_pure (ent_prr ?_ ent_drop))
      rw [if_neg h3]
  refine wps_both ?_ ?_
  · refine wps_stepV (geo_Parity_val q seg (k / (q.1 - 1))) ?_
    refine wps_stepAlloc fun e => ?_
    exact tail e _ rfl
  · refine wps_stepAlloc fun e => ?_
    refine wps_stepV (geo_Parity_val q seg (k / (q.1 - 1))) ?_
    exact tail e _ rfl
end Go.Proofs.Ytldmeimebebllaa
namespace Go.Proofs.Ytldmeimebebllaa
open Go.Mo
set_option linter.unusedVariables false
variable {g : Fr} {cv : CV}
def spotsL (q : G3) (seg : Int) (r : Nat) : List (Int × Int) := (List.range (q.1 - 1).toNat).map (fun c : Nat => blkSpot q seg ((r : Int) * (q.1 - 1) + (c : Int))) ++ [parSpot q seg r]
def sv (l : List (Int × Int)) : List Value := l.flatMap fun s => [.int .i64 s.1, .int .i64 s.2]
theorem sv_snoc (l : List (Int × Int)) (s : Int × Int) : sv (l ++ [s]) = sv l ++ [.int .i64 s.1, .int .i64 s.2] := by simp [sv]
theorem sv_len (l : List (Int × Int)) : (sv l).length = l.length * 2 := by
  induction l with
  | nil => rfl
  | cons a l ih => simp only [sv, List.flatMap_cons, List.length_append, List.length_cons] at ih ⊢; simp at ih ⊢; omega
theorem spotsL_len (q : G3) (seg : Int) (r : Nat) (h : 3 ≤ q.1) : ((spotsL q seg r).length : Int) = q.1 := by simp [spotsL]; omega
abbrev rowsV (a b : Nat) : Value := .func (.func fid_stripe_rows_c1) #[] #[.pointer (some ⟨a, 0, none⟩), .pointer (some ⟨b, 0, none⟩)]
def RowsOk (cv : CV) : Prop := ∀ (a1 a2 : Addr) (yv : Value) (Q : Value → World → Prop) (w : World), stripe_rows_c1 cv yv a1 a2 (fun _ w' => Q (.tuple #[]) w') w → cv.enter (.func (.func fid_stripe_rows_c1) #[] #[.pointer (some a1), .pointer (some a2)]) #[yv] Q w
def rowsA (a b : Nat) (q : G3) (seg : Int) : HP := pc a [.int .i64 q.1, .int .i64 q.2.1, .int .i64 q.2.2] * pc b [.int .i64 seg]
instance (a b : Nat) (q : G3) (seg : Int) : RdC a (rowsA a b q seg) [.int .i64 q.1, .int .i64 q.2.1, .int .i64 q.2.2] := ⟨Ent.trans (ent_left _ _) (pc_ro _ _)⟩
instance (a b : Nat) (q : G3) (seg : Int) : RdC b (rowsA a b q seg) [.int .i64 seg] := ⟨Ent.trans (ent_right _ _) (pc_ro _ _)⟩
abbrev rowsX (q : G3) (seg : Int) (i : Nat) (x : Int × Slc) : HP := pr (x.1 = (i : Int)) * own 2 x.2 (sv (spotsL q seg i))
theorem rows_iter (hcv : RowsOk cv) (a b : Nat) (q : G3) (seg : Int) (hs : InS q seg) : IterX cv (rowsV a b) (fun x : Int × Slc => #[.int .i64 x.1, .slice x.2.base x.2.len x.2.cap]) q.2.1.toNat (rowsX q seg) (rowsA a b q seg) := by
  intro yv I E hstep g
  have hb := RightB.bnd hs.right
  have b1 := hb.d3
  have b2 := hb.d16
  have b3 := hb.r1
  have b4 := hb.r4
  have hse := hs.s0
  have hse2 := hs.s1
  have e0 : w64 (q.1 - 1) = q.1 - 1 := w64_id (by omega) (by omega)
  refine wps_enter (m := stripe_rows_c1 cv yv ⟨a, 0, none⟩ ⟨b, 0, none⟩) (fun Q w h => hcv _ _ _ _ _ h) ?_
  unfold stripe_rows_c1
  simp only [Nat.reduceAdd, Addr.add_mk]
  refine wps_ld q.1 (by rfl) ?_
  refine wps_ld q.2.1 (by rfl) ?_
  refine wps_loop (fun st => ex fun n : Nat => pr (st = (n : Int) ∧ (n : Int) ≤ q.2.1) * (rowsA a b q seg * I n)) (fun st => (q.2.1 - st).toNat) ?_ fun st => ?_
  · exact ent_ex 0 (ent_prr ⟨rfl, by omega⟩ (Ent.refl _))
  refine wps_ex fun n => wps_pr fun ⟨hi, hn⟩ => ?_
  refine wps_ite (fun hc => ?_) (fun hc => ?_)
  rotate_left
  · have hne : n = q.2.1.toNat := by
      have hc1 : ¬ (st < q.2.1) := fun h => hc (decide_eq_true h)
      omega
    rw [hne]
    exact wps_mapR (wps_pure (Ent.starr (ent_orl (Ent.refl _))))
  have hlt : (n : Int) < q.2.1 := by have := of_decide_eq_true hc; omega
  simp only [e0]
  refine wps_loop (fun t => ex fun c : Nat => pr (t.2 = (c : Int) ∧ (c : Int) ≤ q.1 - 1 ∧ t.1.len = c) * rowsA a b q seg * I n * own 2 t.1 (sv ((List.range c).map fun c : Nat => blkSpot q seg ((n : Int) * (q.1 - 1) + (c : Int))))) (fun t => (q.1 - 1 - t.2).toNat) ?_ fun t => ?_
  · refine ent_ex 0 (ent_own0 ?_)
    repeat first | (with_reducible refine ent_pick ?_) | (refine ent_prq ?_)
    all_goals first | exact ⟨rfl, by omega, rfl⟩ | trivial
  refine wps_ex fun c => wps_prP fun ⟨ht, hcn, hcl⟩ => ?_
  refine wps_ite (fun hc2 => ?_) (fun hc2 => ?_)
  · have hlt2 : (c : Int) < q.1 - 1 := by have := of_decide_eq_true hc2; omega
    refine wps_ldG q.1 q.2.1 q.2.2 (by rfl) ?_
    refine wps_ld seg (by rfl) ?_
    have hm : (n : Int) * (q.1 - 1) ≤ (q.2.1 - 1) * (q.1 - 1) := Int.mul_le_mul_of_nonneg_right (by omega) (by omega)
    have hm2 := hb.mul
    have hm3 : 0 ≤ (n : Int) * (q.1 - 1) := Int.mul_nonneg (by omega) (by omega)
    have hk : blkOkB q seg ((n : Int) * (q.1 - 1) + (c : Int)) = true := by
      rw [Int.sub_mul] at hm
      simp only [blkOkB, hs.right, Bool.true_and, Bool.and_eq_true, decide_eq_true_eq]
      unfold placesI
      omega
    have e1 : w64 (w64 (st * (q.1 - 1)) + t.2) = (n : Int) * (q.1 - 1) + (c : Int) := by
      rw [Int.sub_mul] at hm
      rw [hi, ht, w64_id (n := (n : Int) * (q.1 - 1)) (by omega) (by omega), w64_id (by omega) (by omega)]
    rw [e1]
    refine wps_val (geo_Block_val q seg _) ?_
    rw [if_pos hk]
    refine wps_alloc fun x8 => ?_
    refine wps_stA (by simp) (by simp [Value.oneCell']) ?_
    refine wps_ldA (blkSpot q seg ((n : Int) * (q.1 - 1) + (c : Int))) (by rfl) ?_
    refine wps_alloc fun x => ?_
    refine wps_app 2 [.int .i64 (blkSpot q seg ((n : Int) * (q.1 - 1) + (c : Int))).1, .int .i64 (blkSpot q seg ((n : Int) * (q.1 - 1) + (c : Int))).2] rfl (by decide) (rsl_pc rfl) (by simp [Value.oneCell']) (by (try dsimp only); omega) fun s' hs' => wps_pure ?_
    have hs2 : s'.len = t.1.len + 1 := hs'
    refine ent_prr (by rw [range_add1 ht (by omega)]; (try dsimp only); omega) (ent_ex (c + 1) ?_)
    refine ent_pickS (by rw [List.range_succ, List.map_append, List.map_cons, List.map_nil, sv_snoc]) ?_
    repeat first | (with_reducible refine ent_pick ?_) | (refine ent_prq ?_)
    all_goals first | exact ⟨range_add1 ht (by omega), by omega, by (try dsimp only); omega⟩ | trivial
  · have hce : c = (q.1 - 1).toNat := by
      have hc1 : ¬ (t.2 < q.1 - 1) := fun h => hc2 (decide_eq_true h)
      omega
    refine wps_mapR ?_
    refine wps_ldG q.1 q.2.1 q.2.2 (by rfl) ?_
    refine wps_ld seg (by rfl) ?_
    refine wps_val (geo_Parity_val q seg st) ?_
    have hp : parOkB q seg st = true := by
      simp only [parOkB, hs.right, Bool.true_and, Bool.and_eq_true, decide_eq_true_eq]; omega
    rw [if_pos hp]
    refine wps_alloc fun x8 => ?_
    refine wps_stA (by simp) (by simp [Value.oneCell']) ?_
    refine wps_ldA (parSpot q seg st) (by rfl) ?_
    refine wps_alloc fun x => ?_
    refine wps_app 2 [.int .i64 (parSpot q seg st).1, .int .i64 (parSpot q seg st).2] rfl (by decide) (rsl_pc rfl) (by simp [Value.oneCell']) (by (try dsimp only); omega) fun s' hs' => ?_
    refine wps_pre (H' := rowsA a b q seg * (rowsX q seg n (st, s') * I n)) ?_ ?_
    · have he : sv ((List.range c).map fun c : Nat => blkSpot q seg ((n : Int) * (q.1 - 1) + (c : Int))) ++ [.int .i64 (parSpot q seg st).1, .int .i64 (parSpot q seg st).2] = sv (spotsL q seg n) := by
        rw [spotsL, sv_snoc, hce, hi]
      rw [he]
      simp only [← star_assoc]
      repeat first | (with_reducible exact ent_drop) | (with_reducible refine ent_pick ?_) | (refine ent_prx ?_ ?_; rotate_left)
      all_goals first | exact hi | trivial
    refine wps_bind (wps_yield (hstep n (st, s') (by omega) g)) fun y => ?_
    cases y with
    | true =>
      refine wps_ite (fun h => absurd h (by decide)) (fun _ => wps_pure ?_)
      exact ent_prr (by rw [range_add1 hi (by omega)]; omega) (ent_ex (n + 1) (ent_prr ⟨range_add1 hi (by omega), by omega⟩ (Ent.refl _)))
    | false =>
      refine wps_ite (fun _ => wps_mapR (wps_pure ?_)) (fun h => absurd rfl h)
      exact Ent.starr (ent_orr (Ent.refl _))
theorem stripe_rows_spec {H : HP} (q : G3) (seg : Int) : wps g H (stripe_rows q seg) (fun v => ex fun a => ex fun b => pr (v = rowsV a b) * H * rowsA a b q seg) := by
  unfold stripe_rows
  refine wps_alloc fun a => ?_
  refine wps_alloc fun b => wps_pure (ent_ex a (ent_ex b ?_))
  unfold rowsA
  rw [star_assoc, star_assoc]
  exact ent_pr rfl
end Go.Proofs.Ytldmeimebebllaa
