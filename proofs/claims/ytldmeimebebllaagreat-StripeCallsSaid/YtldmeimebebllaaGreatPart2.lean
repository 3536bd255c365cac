/-
  A part of the proof: predicate transformers over the model, and a separation logic over them; what functions of the program do.
-/
import Derived.Test.YtldmeimebebllaaGreatPart1
import Derived.Laws.Strings
set_option linter.unusedSimpArgs false
namespace Go.Proofs.Ytldmeimebebllaa
open Go.Mo
set_option linter.unusedVariables false
variable {g : Fr} {cv : CV}
theorem filter_lt {α : Type} {p q : α → Bool} (hpq : ∀ x, q x = true → p x = true) {a : α} (hpa : p a = true) (hqa : q a = false) : ∀ {l : List α}, a ∈ l → (l.filter q).length < (l.filter p).length
  | [], h => by simp at h
  | x :: l, h => by
    have hle : (l.filter q).length ≤ (l.filter p).length := by
      rw [← List.countP_eq_length_filter, ← List.countP_eq_length_filter]
      exact List.countP_mono_left fun x _ h => hpq x h
    rcases List.mem_cons.1 h with rfl | h
    · rw [List.filter_cons, List.filter_cons, if_pos hpa, if_neg (by simp [hqa])]
      simp only [List.length_cons]; omega
    · have ih := filter_lt hpq hpa hqa h
      rw [List.filter_cons, List.filter_cons]
      cases hq : q x with
      | true => rw [if_pos rfl, if_pos (hpq x hq)]; simp only [List.length_cons]; omega
      | false =>
        rw [if_neg (by simp)]
        split
        · simp only [List.length_cons]; omega
        · exact ih
def KeysOk (cv : CV) : Prop := ∀ (a : Addr) (yv : Value) (Q : Value → World → Prop) (w : World), maps_Keys_m_c1 cv yv a (fun _ w' => Q (.tuple #[]) w') w → cv.enter (.func (.func fid_maps_Keys_m_c1) #[] #[.pointer (some a)]) #[yv] Q w
def keyNx (f : Int → Option Value) (s : List Int) (x : Int) (s' : List Int) : Prop := s' = s ++ [x] ∧ s'.Nodup ∧ ∀ y ∈ s', (f y).isSome = true
def keyFin (f : Int → Option Value) (s : List Int) : Prop := s.Nodup ∧ ∀ y, y ∈ s ↔ (f y).isSome = true
abbrev keysV (c : Nat) : Value := .func (.func fid_maps_Keys_m_c1) #[] #[.pointer (some ⟨c, 0, none⟩)]
def keyOf (e : MapEntry) : Int := match e.key with | .int _ n => n | _ => 0
theorem keys_iter (hcv : KeysOk cv) {c mb clock : Nat} {es : Array MapEntry} {f : Int → Option Value} (hm : MapOk es.toList clock f) (hv : ∀ j v, f j = some v → ∃ s : Slc, v = vS s) :
    IterG cv (keysV c) (fun x : Int => #[.int .i64 x]) [] (keyNx f) (keyFin f) (pc c [.map (some mb)] * po mb (.map es clock)) := by
  intro yv I E hstep g
  refine wps_enter (m := maps_Keys_m_c1 cv yv ⟨c, 0, none⟩) (fun Q w h => hcv _ _ _ _ h) ?_
  unfold maps_Keys_m_c1
  repeat refine wps_ld _ (by rfl) ?_
  refine wps_rangeMapF hm fun it => ?_
  refine wps_loopg (γ := List Int) (fun s _ => pr (s.Nodup ∧ ∀ y ∈ s, (f y).isSome = true) * (pc c [.map (some mb)] * I s * itrF it mb es clock f (fun i => s.contains i)))
    (fun s _ => (es.toList.filter fun e => !s.contains (keyOf e)).length) [] ?_ fun s _ => ?_
  · refine ent_prr ⟨by simp, by simp⟩ ?_
    have : (fun i : Int => ([] : List Int).contains i) = fun _ => false := by funext i; simp
    rw [this]
    refine Ent.of_eq ?_
    ac_rfl
  · refine wps_pr fun ⟨hnd, hall⟩ => ?_
    refine wps_nextF rfl (fun hend => ?_) (fun j v hj hV => ?_)
    · refine wps_mapR (wps_pure ?_)
      have : pc c [.map (some mb)] * I s * itrF it mb es clock f (fun i => s.contains i) = (pc c [.map (some mb)] * itrF it mb es clock f (fun i => s.contains i)) * I s := by ac_rfl
      rw [this]
      refine Ent.star (Ent.starr (ex_ent fun seen => pr_ent fun _ => ent_right _ _)) (ent_orl (ent_ex s (ent_prr ⟨hnd, fun y => ⟨hall y, fun hy => ?_⟩⟩ (Ent.refl _))))
      obtain ⟨v, hv⟩ := Option.isSome_iff_exists.1 hy
      simpa using hend y v hv
    · obtain ⟨sv, rfl⟩ := hv j v hj
      have hjs : j ∉ s := by simpa using hV
      have hnx : keyNx f s j (s ++ [j]) := by
        refine ⟨rfl, ?_, ?_⟩
        · rw [List.nodup_append]
          refine ⟨hnd, by simp, fun a ha b hb => ?_⟩
          simp only [List.mem_singleton] at hb
          subst hb
          exact fun e => hjs (e ▸ ha)
        · intro y hy
          rcases List.mem_append.1 hy with hy | hy
          · exact hall y hy
          · simp only [List.mem_singleton] at hy
            subst hy; rw [hj]; rfl
      obtain ⟨e, he, hk, _⟩ := (hm.find j (vS sv)).1 hj
      have hke : keyOf e = j := by
        obtain ⟨n, hn⟩ := hm.keys e he
        rw [keyIs_int hn] at hk
        simp only [keyOf, hn]
        have : j = n := by simpa using hk
        exact this.symm
      have hV' : (fun i => s.contains i || i == j) = fun i => (s ++ [j]).contains i := by
        funext i
        rw [Bool.eq_iff_iff, List.contains_append]; simp
      refine wps_entryF (ev := vS) sv rfl rfl ?_
      rw [hV']
      unfold itrF itrC
      refine wps_exP fun seen => ?_
      simp only [← star_assoc]
      refine wps_prP fun hok => ?_
      refine wps_call (F := po it (.mapIter (some mb) clock seen clock)) (A := pc c [.map (some mb)] * po mb (.map es clock) * I s) (fun g' => wps_yield (hstep s j (s ++ [j]) hnx g')) ?_ fun y => ?_
      · exact Ent.of_eq (by ac_rfl)
      cases y with
      | true =>
        refine wps_ite (fun h => absurd h (by simp)) (fun _ => wps_pure ?_)
        have hlt : (es.toList.filter fun e => !(s ++ [j]).contains (keyOf e)).length < (es.toList.filter fun e => !s.contains (keyOf e)).length := by
          refine filter_lt (a := e) (fun x hx => ?_) ?_ ?_ he
          · simp only [List.contains_append, Bool.not_or, Bool.and_eq_true] at hx
            exact hx.1
          · rw [hke, hV]; rfl
          · rw [hke]; simp
        refine Ent.trans ?_ (ent_ex (s ++ [j]) (Ent.refl _))
        rw [if_pos rfl]
        refine ent_exr seen ?_
        simp only [← star_assoc]
        exact ent_pick (ent_pick (ent_prx hok (ent_pick (ent_pick (ent_prx ⟨hnx.2.1, hnx.2.2⟩ (ent_prq hlt))))))
      | false =>
        refine wps_ite (fun _ => wps_mapR (wps_pure ?_)) (fun h => absurd rfl h)
        rw [if_neg (by simp)]
        exact Ent.trans (ent_right _ _) (Ent.starr (ent_orr (Ent.refl _)))
theorem slices_AppendSeq_spec (hcv : KeysOk cv) {c mb clock N : Nat} {es : Array MapEntry} {f : Int → Option Value} (hm : MapOk es.toList clock f) (hv : ∀ j v, f j = some v → ∃ s : Slc, v = vS s)
    (hN : ∀ s : List Int, s.Nodup → (∀ y ∈ s, (f y).isSome = true) → s.length ≤ N) (hN2 : N ≤ 1073741824) :
    wps g (pc c [.map (some mb)] * po mb (.map es clock)) (slices_AppendSeq_i cv ⟨none, 0, 0⟩ (keysV c)) fun t => po mb (.map es clock) * ex fun zs : List Int => pr (keyFin f zs) * own 1 t (zs.map (Value.int .i64)) := by
  unfold slices_AppendSeq_i
  repeat with_reducible refine wps_alloc fun _ => ?_
  rename_i x2
  refine wps_rangeG (F := emp) (fun s : List Int => ex fun t : Slc => pr (t.len = s.length ∧ s.length ≤ N) * own 1 t (s.map (Value.int .i64)) * pc x2 [vS t]) (fun _ => pr False)
    (fun s x s' t => pr (t = x) * (pc c [.map (some mb)] * po mb (.map es clock) * ex fun t : Slc => pr (t.len = s.length ∧ s.length ≤ N) * own 1 t (s.map (Value.int .i64)) * pc x2 [vS t]))
    (keys_iter (mb := mb) hcv hm hv) ?_ ?_ ?_ ?_ ?_ ?_
  · rw [emp_star]
    refine Ent.starr ?_
    refine ent_ex nilS ?_
    have : pc x2 [Value.slice none 0 0] = emp * emp * pc x2 [vS nilS] := by rw [star_emp, emp_star]; rfl
    rw [this]
    exact Ent.starl (Ent.star (fun _ _ => ⟨rfl, Nat.zero_le _⟩) (own_nil 1))
  · intro s x s' _ g
    exact wps_pure (ent_prr rfl (Ent.refl _))
  · intro s x s' hnx t g
    refine wps_pr fun ht => ?_
    subst ht
    obtain ⟨rfl, hnd, hall⟩ := hnx
    refine wps_exP fun u => ?_
    simp only [← star_assoc]
    refine wps_prP fun ⟨hul, hsl⟩ => ?_
    have hN' := hN _ hnd hall
    repeat first | (with_reducible refine wps_alloc fun _ => ?_) | (refine wps_ld _ (by rfl) ?_)
    refine wps_app 1 [Value.int .i64 t] rfl (by decide) (rsl_pc rfl) (by simp [Value.oneCell']) (by (try dsimp only); omega) fun u' hu' => ?_
    repeat refine wps_st (by simp) ?_
    refine wps_pure ?_
    refine Ent.trans ?_ (Ent.starr (ent_ex u' (Ent.refl _)))
    simp only [← star_assoc]
    refine ent_pickC (by rfl) (ent_pickS (by simp) (ent_prx ⟨by simp [hu', hul], hN'⟩ ?_))
    exact ent_pick ent_drop
  · intro D
    refine wps_exP fun s => ?_
    simp only [← star_assoc]
    refine wps_prP fun hf => ?_
    refine wps_exP fun u => ?_
    simp only [← star_assoc]
    refine wps_prP fun hu => ?_
    repeat refine wps_ld _ (by rfl) ?_
    refine wps_take (wps_pure ?_)
    refine ent_exr s ?_
    simp only [← star_assoc]
    exact ent_pick (ent_prx hf ent_drop)
  · intro D
    exact wps_false (fun o ho => by
      have := ent_right _ _ o (ent_left _ _ o ho)
      exact ent_right _ _ o this)
  · intro D id
    exact wps_false (fun o ho => by
      have := ent_right _ _ o (ent_left _ _ o ho)
      exact ent_right _ _ o this)
theorem sorted_fin {f : Int → Option Value} {zs l : List Int} (h : keyFin f zs) (hl : l.Pairwise (· < ·)) (hm : ∀ y, y ∈ l ↔ (f y).isSome = true) : sorted zs = l := by
  have hnd : l.Nodup := hl.imp fun h e => by omega
  have hp : zs.Perm l := (List.perm_ext_iff_of_nodup h.1 hnd).2 fun a => (h.2 a).trans (hm a).symm
  refine List.Perm.eq_of_pairwise (le := fun a b : Int => a ≤ b) (fun a b _ _ h1 h2 => by omega) ?_ (hl.imp fun h => by omega) ((List.mergeSort_perm zs _).trans hp)
  have := List.pairwise_mergeSort (le := fun x y : Int => decide (x ≤ y)) (fun a b c h1 h2 => by simp at *; omega) (fun a b => by simp; omega) zs
  exact this.imp fun h => by simpa using h
theorem slices_Sorted_spec (hcv : KeysOk cv) {c mb clock N : Nat} {es : Array MapEntry} {f : Int → Option Value} (hm : MapOk es.toList clock f) (hv : ∀ j v, f j = some v → ∃ s : Slc, v = vS s)
    (hN : ∀ s : List Int, s.Nodup → (∀ y ∈ s, (f y).isSome = true) → s.length ≤ N) (hN2 : N ≤ 1073741824) {l : List Int} (hl : l.Pairwise (· < ·)) (hml : ∀ y, y ∈ l ↔ (f y).isSome = true) :
    wps g (pc c [.map (some mb)] * po mb (.map es clock)) (slices_Sorted_i cv (keysV c)) fun t => po mb (.map es clock) * own 1 t (l.map (Value.int .i64)) := by
  unfold slices_Sorted_i slices_Collect_i
  refine wps_assoc (wps_bind (slices_AppendSeq_spec hcv hm hv hN hN2) fun t => ?_)
  refine wps_bindpure ?_
  refine wps_exP fun zs => ?_
  simp only [← star_assoc]
  refine wps_prP fun hf => ?_
  have hz : zs.length ≤ N := hN zs hf.1 fun y hy => (hf.2 y).1 hy
  refine wps_sort rfl (by omega) (wps_pure ?_)
  rw [sorted_fin hf hl hml]
  exact Ent.refl _
end Go.Proofs.Ytldmeimebebllaa
namespace Go.Proofs.Ytldmeimebebllaa
open Go.Mo
set_option linter.unusedVariables false
variable {g : Fr} {cv : CV}
def zv (b : List Int) : List Value := b.map (Value.int .i64)
def intsP (s : Slc) (b : List Int) : HP := rsl 1 s (zv b)
instance (s : Slc) (b : List Int) : Pers (intsP s b) := by unfold intsP; infer_instance
instance (s : Slc) (b : List Int) : RdS 1 s (intsP s b) (zv b) := ⟨Ent.refl _⟩
instance (s : Slc) (b : List Int) : RdS 1 s (byt s b) (bv b) := ⟨Ent.refl _⟩
theorem ilen_of {H : HP} {s : Slc} {b : List Int} (h : Ent H (intsP s b)) : Ent H (pr (b.length = s.len)) := Ent.trans h (Ent.trans (rsl_len 1 s (zv b)) fun o ho => by
  have : (zv b).length = s.len * 1 := ho
  show b.length = s.len
  simpa [zv] using this)
theorem cap_of {H : HP} {z : Nat} {s : Slc} {cs : List Value} (h : Ent H (rsl z s cs)) : Ent H (pr (s.len ≤ s.cap)) := Ent.trans h fun o ho => by
  rcases ho with ho | ⟨ad, all, ho⟩
  · show s.len ≤ s.cap
    have := ho.1
    omega
  · exact (ent_left _ _ o ho).2.2.1
theorem val_lookS {β : Type} {enc : β → Value} {z : β} {m : Nat} {j : Int} {f : Int → Option Value} {H H' : HP} [hp : PickM m H f H'] (c : Option β) (hc : f j = c.map enc) : Val g H (lookM enc z (some m) j) (match c with | some y => (y, true) | none => (z, false)) := by
  have := wps_lookS (hp := hp) (g := g) (enc := enc) (z := z) (k := fun y => pureM y) (Q := fun x => pr (x = match c with | some y => (y, true) | none => (z, false)) * H) (H := H) c hc (wps_pure (ent_pr rfl))
  exact this
def Rk.arm (R : Rk) (c : Int) : Rk := { R with count := maxI c (-1) }
theorem device_Rack_Arm_spec (rb : Nat) (R : Rk) (ds : Slc) (ps : List Nat) (c : Int) : wps g (rackP rb R ds ps) (device_Rack_Arm (ptr rb) c) (fun _ => rackP rb (R.arm c) ds ps) := by
  unfold device_Rack_Arm rackP
  repeat first | (with_reducible refine wps_nil ?_) | (refine wps_st (by simp) ?_)
  refine wps_pure ?_
  simp only [Rk.arm]
  repeat first | (with_reducible exact ent_drop) | (refine ent_pickC (by rfl) ?_)
theorem device_Rack_Off_val (rb : Nat) (R : Rk) (ds : Slc) (ps : List Nat) : Val g (rackP rb R ds ps) (device_Rack_Off (ptr rb)) R.off := by
  unfold device_Rack_Off rackP
  repeat first | (with_reducible refine wps_nil ?_) | (refine wps_ld _ (by rfl) ?_) | (with_reducible exact wps_pure (ent_val rfl))
def Rk.lErr (R : Rk) (k s : Int) : Int := if k < 0 ∨ k ≥ R.n ∨ s < 0 ∨ s ≥ R.ns then 11 else 0
def Rk.lst (R : Rk) (k s : Int) : List Int := if R.lErr k s = 0 then (R.dk k.toNat).lasts s.toNat else []
def secOf (im : List Int) (k : Nat) : List Int := (List.range 64).map fun i => im.getD (k * 64 + i) 0
def Dk.load (D : Dk) (im : List Int) : Dk := { D with lasts := fun s => secOf im s, cached := fun _ => none }
def Rk.load (R : Rk) (k : Int) (im : List Int) : Rk := if k < 0 ∨ k ≥ R.n then R else R.setD k.toNat ((R.dk k.toNat).load im)
end Go.Proofs.Ytldmeimebebllaa
namespace Go.Proofs.Ytldmeimebebllaa
open Go.Mo
set_option linter.unusedVariables false
variable {g : Fr} {cv : CV}
def isC (R : Rk) (i : Nat) : Bool := ((R.dk (i / R.ns)).cached ((i % R.ns : Nat) : Int)).isSome
def rank (R : Rk) (i : Nat) : Nat := ((List.range i).filter (isC R)).length
def keepB (ks : List Int) (n : Nat) : Bool := if ks.length = 0 then false else bAnd .i64 (ks.getD (n % ks.length) 0) 1 == 1
def Dk.restored (R : Rk) (ks : List Int) (j : Nat) : Dk := ((R.dk j).flushed fun k => keepB ks (rank R (j * R.ns + k.toNat)) && !(R.dk j).failed).clean
def Rk.restTo (R : Rk) (ks : List Int) (n : Nat) : Rk := { R with off := false, count := -1, dk := fun j => if j < n then Dk.restored R ks j else R.dk j }
def Rk.restore (R : Rk) (ks : List Int) : Rk := { R with off := false, count := -1, dk := fun j => Dk.restored R ks j }
def Dk.keysN (D : Dk) (m : Nat) : List Nat := (List.range m).filter fun k : Nat => (D.cached (k : Int)).isSome
theorem filter_rank {p : Nat → Bool} : ∀ {n t k : Nat}, ((List.range n).filter p)[t]? = some k → ((List.range k).filter p).length = t ∧ k < n ∧ p k = true
  | 0, t, k, h => by simp at h
  | n + 1, t, k, h => by
    rw [List.range_succ, List.filter_append] at h
    by_cases ht : t < ((List.range n).filter p).length
    · rw [List.getElem?_append_left ht] at h
      have := filter_rank h
      exact ⟨this.1, by omega, this.2.2⟩
    · rw [List.getElem?_append_right (by omega)] at h
      by_cases hp : p n = true
      · rw [List.filter_cons, if_pos hp] at h
        have h0 : t - ((List.range n).filter p).length = 0 := by
          have := (List.getElem?_eq_some_iff.1 h).1
          simp at this; omega
        rw [h0] at h
        simp at h
        subst h
        exact ⟨by omega, by omega, hp⟩
      · rw [List.filter_cons, if_neg hp] at h
        simp at h
theorem range_split (a k : Nat) : List.range (a + k) = List.range a ++ (List.range k).map (a + ·) := List.range_add
theorem rank_add (R : Rk) (j k : Nat) (hk : k ≤ R.ns) : rank R (j * R.ns + k) = rank R (j * R.ns) + ((R.dk j).keysN k).length := by
  unfold rank Dk.keysN
  rw [range_split, List.filter_append, List.length_append, List.filter_map, List.length_map]
  congr 2
  apply List.filter_congr
  intro i hi
  simp only [List.mem_range] at hi
  show isC R (j * R.ns + i) = _
  unfold isC
  have h0 : 0 < R.ns := by omega
  have h1 : (j * R.ns + i) / R.ns = j := by
    rw [Nat.mul_comm, Nat.mul_add_div h0, Nat.div_eq_of_lt (by omega)]; omega
  have h2 : (j * R.ns + i) % R.ns = i := by
    rw [Nat.mul_comm, Nat.mul_add_mod, Nat.mod_eq_of_lt (by omega)]
  rw [h1, h2]
theorem keysN_get {D : Dk} {m t k : Nat} (h : (D.keysN m)[t]? = some k) : (D.keysN k).length = t ∧ k < m ∧ (D.cached (k : Int)).isSome = true := filter_rank h
theorem rank_succ (R : Rk) (j : Nat) : rank R ((j + 1) * R.ns) = rank R (j * R.ns) + ((R.dk j).keysN R.ns).length := by
  rw [Nat.add_mul, Nat.one_mul]; exact rank_add R j R.ns (Nat.le_refl _)
theorem keysN_le (D : Dk) (m : Nat) : (D.keysN m).length ≤ m := by
  have := List.length_filter_le (fun k : Nat => (D.cached (k : Int)).isSome) (List.range m)
  rw [List.length_range] at this
  exact this
theorem rank_le (R : Rk) (i : Nat) : rank R i ≤ i := by
  have := List.length_filter_le (isC R) (List.range i)
  rw [List.length_range] at this
  exact this
def Dk.keysI (D : Dk) (m : Nat) : List Int := (D.keysN m).map fun k : Nat => (k : Int)
theorem keysI_asc (D : Dk) (m : Nat) : (D.keysI m).Pairwise (· < ·) := by
  unfold Dk.keysI Dk.keysN
  rw [List.pairwise_map]
  refine List.Pairwise.filter _ ?_
  exact (List.pairwise_lt_range (n := m)).imp fun h => by omega
theorem keysI_mem {D : Dk} {ns : Nat} (h : D.ok ns) (sc : Int → Slc) (y : Int) : y ∈ D.keysI ns ↔ ((fun j => (D.cached j).map fun _ => vS (sc j)) y).isSome = true := by
  unfold Dk.keysI Dk.keysN
  simp only [List.mem_map, List.mem_filter, List.mem_range, Option.isSome_map]
  constructor
  · rintro ⟨k, ⟨_, hk⟩, rfl⟩; exact hk
  · intro hy
    obtain ⟨b, hb⟩ := Option.isSome_iff_exists.1 hy
    have := h.2 y b hb
    refine ⟨y.toNat, ⟨by omega, ?_⟩, by omega⟩
    rw [show ((y.toNat : Nat) : Int) = y by omega]; exact hy
theorem nodup_le {α : Type} [BEq α] [LawfulBEq α] : ∀ {s l : List α}, s.Nodup → (∀ y ∈ s, y ∈ l) → s.length ≤ l.length
  | [], l, _, _ => by simp
  | a :: s, l, hn, hs => by
    rw [List.nodup_cons] at hn
    have ha : a ∈ l := hs a (by simp)
    have ih := nodup_le (l := l.erase a) hn.2 fun y hy => (List.mem_erase_of_ne (fun (e : y = a) => hn.1 (e ▸ hy))).2 (hs y (by simp [hy]))
    have hl := List.length_erase_of_mem ha
    have hp := List.length_pos_of_mem ha
    simp only [List.length_cons]; omega
theorem few_keys {D : Dk} {ns : Nat} (h : D.ok ns) (sc : Int → Slc) (s : List Int) (hn : s.Nodup) (hs : ∀ y ∈ s, ((fun j => (D.cached j).map fun _ => vS (sc j)) y).isSome = true) : s.length ≤ ns := by
  have h1 := nodup_le hn fun y hy => (keysI_mem h sc y).2 (hs y hy)
  have h2 := keysN_le D ns
  simp only [Dk.keysI, List.length_map] at h1
  omega
theorem wps_imapP {α : Type} {m : Nat} {f : Int → Option Value} {H H' : HP} {k : M α} {Q : α → HP} [hp : PickM m H f H'] (h : ∀ es clock, MapOk es.toList clock f → wps g (H' * po m (.map es clock)) k Q) : wps g H k Q := by
  rw [hp.eq]
  unfold imap
  refine wps_exr fun es => wps_exr fun clock => ?_
  rw [star_left_comm]
  exact wps_pr fun hm => h es clock hm
theorem imap_mk {m clock : Nat} {es : Array MapEntry} {f : Int → Option Value} (hm : MapOk es.toList clock f) : Ent (po m (.map es clock)) (imap m f) := ent_ex es (ent_ex clock (ent_prr hm (Ent.refl _)))
theorem flushed_eq {D : Dk} {p q : Int → Bool} {i : Nat} (h : ∀ b, D.cached (i : Int) = some b → p i = q i) : (D.flushed p).lasts i = (D.flushed q).lasts i := by
  simp only [Dk.flushed]
  cases hc : D.cached (i : Int) with
  | none => rfl
  | some b => simp only [h b hc]
theorem device_Rack_Restore_spec (hcv : KeysOk cv) {H : HP} (rb : Nat) (R : Rk) (ds : Slc) (ps : List Nat) (x : Slc) (ks : List Int) (hx : Ent H (intsP x ks)) :
    wps g (H * rackP rb R ds ps) (device_Rack_Restore cv (ptr rb) x) (fun _ => H * rackP rb (R.restore ks) ds ps) := by
  unfold device_Rack_Restore
  have hp : Ent (rackP rb R ds ps) (pr (ps.length = R.n ∧ ds.len = R.n ∧ R.n ≤ 17 ∧ R.ns ≤ 4096)) := Ent.trans (ent_left _ _) (Ent.trans (ent_left _ _) (ent_left _ _))
  refine wps_fact (Ent.trans (ent_right _ _) hp) fun ⟨h1, h2, h17, hns⟩ => ?_
  refine wps_fact (Ent.trans (ent_left _ _) (ilen_of hx)) fun hl => ?_
  unfold rackP
  simp only [← star_assoc]
  repeat first | (with_reducible refine wps_nil ?_) | (refine wps_ld _ (by rfl) ?_) | (refine wps_st (by simp) ?_)
  refine wps_loop (fun s => ex fun n : Nat => pr (s.2 = (n : Int) ∧ n ≤ R.n ∧ s.1 = ((rank R (n * R.ns) : Nat) : Int)) * H * rackP rb (R.restTo ks n) ds ps) (fun s => (R.n - s.2).toNat) ?_ fun s => ?_
  · refine ent_ex 0 ?_
    have h0 : rank R (0 * R.ns) = 0 := by simp [rank]
    rw [h0]
    unfold rackP
    simp only [← star_assoc, Rk.restTo]
    have hb : bst R.n (rackF R.ns (fun j => if j < 0 then Dk.restored R ks j else R.dk j) ps) = bst R.n (rackF R.ns R.dk ps) := bst_congr fun i _ => by simp [rackF]
    rw [hb]
    repeat first | (with_reducible refine ent_pick ?_) | (refine ent_pickC (by rfl) ?_) | (refine ent_prq ?_)
    all_goals first | exact ⟨rfl, by omega, rfl⟩ | exact ⟨h1, h2, h17, hns⟩ | trivial
  · refine wps_ex fun n => ?_
    simp only [star_assoc]
    refine wps_pr fun ⟨hi, hn, hs1⟩ => ?_
    refine wps_ite (fun hc => ?_) (fun hc => ?_)
    · have hlt : n < R.n := by simp only [decide_eq_true_eq] at hc; omega
      have hrn : (R.restTo ks n).n = R.n := rfl
      have hdn : (R.restTo ks n).dk n = R.dk n := by simp [Rk.restTo]
      have hrl : rank R (n * R.ns) ≤ 69632 := Nat.le_trans (rank_le R _) (show n * R.ns ≤ 17 * 4096 from Nat.mul_le_mul (by omega) hns)
      rw [rackP_focus rb (R.restTo ks n) ds ps (j := n) hlt, hdn]
      simp only [← star_assoc]
      refine wps_rdS n (ptr (ps.getD n 0)) hi (pv_get (by omega)) ?_
      have hnext : R.restTo ks (n + 1) = (R.restTo ks n).setD n (Dk.restored R ks n) := by
        simp only [Rk.restTo, Rk.setD, Rk.mk.injEq, true_and, and_true]
        funext j
        by_cases hj : j = n
        · subst hj; simp
        · have : j < n + 1 ↔ j < n := by omega
          simp [hj, this]
      refine wps_tail (F := pr (ps.length = (R.restTo ks n).n ∧ ds.len = (R.restTo ks n).n ∧ (R.restTo ks n).n ≤ 17 ∧ (R.restTo ks n).ns ≤ 4096) * bst (R.restTo ks n).n (hole n (rackF (R.restTo ks n).ns (R.restTo ks n).dk ps)) * own 1 ds (ps.map pv) * pc rb [vS ds, .int .i64 (R.restTo ks n).ns, .int .i64 (R.restTo ks n).count, .bool (R.restTo ks n).off])
        (A := H * dskAt R.ns (ps.getD n 0) (R.dk n)) (Q' := fun r => pr (r = .inl (((rank R ((n + 1) * R.ns) : Nat) : Int), w64 (s.2 + 1))) * H * dskAt R.ns (ps.getD n 0) (Dk.restored R ks n)) (fun g => ?_) (Ent.of_eq (by simp only [star_assoc]; ac_rfl)) (fun r => ?_)
      rotate_left
      · refine Ent.trans (B := pr (r = .inl (((rank R ((n + 1) * R.ns) : Nat) : Int), w64 (s.2 + 1))) * (H * rackP rb (R.restTo ks (n + 1)) ds ps)) (Ent.of_eq ?_) (pr_ent fun hr => ?_)
        · rw [hnext, ← rackP_set (R := R.restTo ks n) _ hlt]
          simp only [star_assoc]
          ac_rfl
        · subst hr
          refine ent_prr (by (try dsimp only); rw [range_add1 hi (by omega)]; omega) (ent_ex (n + 1) ?_)
          rw [star_assoc]
          exact ent_prr ⟨range_add1 hi (by omega), by omega, rfl⟩ (Ent.refl _)
      generalize ps.getD n 0 = p
      unfold dskAt dskX
      simp only [← star_assoc]
      refine wps_exP fun ls => wps_exP fun mb => wps_exP fun sl => wps_exP fun sc => ?_
      simp only [← star_assoc]
      refine wps_prP fun hd => ?_
      have hD : (R.dk n).ok R.ns := hd.2.2
      repeat first | (with_reducible refine wps_nil ?_) | (refine wps_ld _ (by rfl) ?_)
      unfold maps_Keys_m
      repeat first | (with_reducible refine wps_bindpure ?_) | (with_reducible refine wps_assoc ?_) | (with_reducible refine wps_alloc fun _ => ?_)
      rename_i c
      refine wps_imapP (m := mb) fun es clock hm => ?_
      refine wps_call (fun _ => slices_Sorted_spec (N := R.ns) hcv (c := c) (mb := mb) hm (fun j v hj => ?_) (few_keys hD sc) (by omega) (keysI_asc _ _) (keysI_mem hD sc)) (F := H * seqp sl (R.dk n).lasts * cachep sc (R.dk n).cached * own 1 ls (sl.map vS) * pc p [vS ls, .map (some mb), .bool (R.dk n).failed, .int .i64 (R.dk n).count]) (Ent.of_eq (by ac_rfl)) fun kt => ?_
      · obtain ⟨b, _, hb⟩ := Option.map_eq_some_iff.1 hj
        exact ⟨_, hb.symm⟩
      simp only [← star_assoc]
      refine wps_swap (imap_mk (m := mb) hm) ?_
      refine wps_fact (Ent.trans (ent_pick1 (A := own 1 kt (((R.dk n).keysI R.ns).map (Value.int .i64)))) (own_len _ _ _)) fun ⟨hkl, _⟩ => ?_
      have hkl' : kt.len = ((R.dk n).keysN R.ns).length := by simpa [Dk.keysI] using hkl.symm
      generalize hpp : (fun k : Int => keepB ks (rank R (n * R.ns + k.toNat)) && !(R.dk n).failed) = pp
      have hkn := keysN_le (R.dk n) R.ns
      refine wps_loop (fun s2 => ex fun t : Nat => ex fun sl' : List Slc => pr (s2.2 = (t : Int) ∧ t ≤ ((R.dk n).keysN R.ns).length ∧ s2.1 = ((rank R (n * R.ns) + t : Nat) : Int) ∧ sl'.length = R.ns) * H
        * seqp sl' ((R.dk n).flushed fun q => pp q && (((R.dk n).keysI R.ns).take t).contains q).lasts * cachep sc (R.dk n).cached * imap mb (fun j => Option.map (fun _ => vS (sc j)) ((R.dk n).cached j)) * own 1 ls (sl'.map vS)
        * own 1 kt (((R.dk n).keysI R.ns).map (Value.int .i64)) * pc p [vS ls, .map (some mb), .bool (R.dk n).failed, .int .i64 (R.dk n).count]) (fun s2 => (((R.dk n).keysN R.ns).length - s2.2).toNat) ?_ fun s2 => ?_
      · refine ent_ex 0 (ent_ex sl ?_)
        refine ent_swap (A := seqp sl (R.dk n).lasts) (seqp_ext (f' := ((R.dk n).flushed fun k => pp k && (((R.dk n).keysI R.ns).take 0).contains k).lasts) fun i _ => ?_) ?_
        · simp only [Dk.flushed]
          cases (R.dk n).cached i <;> simp
        · repeat first | (with_reducible refine ent_pick ?_) | (refine ent_prq ?_)
          all_goals first | exact ⟨rfl, by omega, hs1, hd.1⟩ | trivial
      · refine wps_ex fun t => wps_ex fun sl' => ?_
        refine wps_prP fun ⟨hi2, ht, hs2, hsl'⟩ => ?_
        refine wps_ite (fun hc2 => ?_) (fun hc2 => ?_)
        · have htl : t < ((R.dk n).keysN R.ns).length := by simp only [decide_eq_true_eq] at hc2; omega
          obtain ⟨k, hkg⟩ : ∃ k, ((R.dk n).keysN R.ns)[t]? = some k := ⟨_, List.getElem?_eq_getElem htl⟩
          obtain ⟨hkt, hkns, hkc⟩ := keysN_get hkg
          obtain ⟨b, hb⟩ := Option.isSome_iff_exists.1 hkc
          have hrk : rank R (n * R.ns + k) = rank R (n * R.ns) + t := by rw [rank_add R n k (by omega), hkt]
          have hkI : ((R.dk n).keysI R.ns)[t]? = some (k : Int) := by simp [Dk.keysI, hkg]
          refine wps_rdS t (k : Int) hi2 (by rw [List.getElem?_map, hkI]; rfl) ?_
          generalize hN : rank R (n * R.ns) + t = N at *
          have hppk : pp (k : Int) = (keepB ks N && !(R.dk n).failed) := by
            rw [← hpp]
            show (keepB ks (rank R (n * R.ns + ((k : Int)).toNat)) && !(R.dk n).failed) = _
            rw [show ((k : Int)).toNat = k by omega, hrk]
          refine wps_val (v := keepB ks N) ?_ ?_
          · refine wps_ite (fun hx0 => ?_) (fun hx0 => ?_)
            · have hx0' : 0 < x.len := by simp only [decide_eq_true_eq] at hx0; omega
              refine wps_assert (by omega) ?_
              have hlt2 : N % ks.length < ks.length := Nat.mod_lt _ (by omega)
              have hmod : Int.tmod s2.1 (x.len : Int) = ((N % ks.length : Nat) : Int) := by
                rw [hs2, ← hl]; rfl
              refine wps_rd (N % ks.length) (ks.getD (N % ks.length) 0) (Ent.trans (ent_drop (B := H)) hx) hmod ?_ ?_
              · simp [zv, List.getD_eq_getElem?_getD, List.getElem?_eq_getElem hlt2]
              · refine wps_pure (ent_val ?_)
                rw [keepB, if_neg (by omega)]
            · have hx0' : x.len = 0 := by simp only [decide_eq_true_eq] at hx0; omega
              refine wps_pure (ent_val ?_)
              rw [keepB, if_pos (by omega)]
          refine wps_val (v := pp (k : Int)) ?_ ?_
          · rw [hppk]
            apply val_eq
            · repeat first | (with_reducible refine wps_nil ?_) | (refine wps_ld _ (by rfl) ?_) | ((with_reducible apply val_ite); rotate_left; refine fun (_ : ¬ _) => ?_; rotate_right; refine fun (_ : _ = true) => ?_) | (with_reducible exact wps_pure (ent_val rfl))
            · cases keepB ks N <;> simp
          have hnxt : ∀ i : Nat, ((R.dk n).flushed fun q => pp q && (((R.dk n).keysI R.ns).take (t + 1)).contains q).lasts i = if i = k ∧ pp (k : Int) = true then b else ((R.dk n).flushed fun q => pp q && (((R.dk n).keysI R.ns).take t).contains q).lasts i := by
            intro i
            rw [List.take_add_one, hkI]
            by_cases hik : i = k
            · subst hik
              simp only [Dk.flushed, hb, Option.toList, List.contains_append]
              by_cases hpk : pp (i : Int) = true
              · simp [hpk]
              · simp [hpk]
            · rw [if_neg (fun e => hik e.1)]
              refine flushed_eq fun b' _ => ?_
              have : ¬ (i : Int) = (k : Int) := by omega
              simp [Option.toList, this]
          refine wps_ite (fun hpk => ?_) (fun hpk => ?_)
          · refine wps_regionH ?_
            repeat first | (with_reducible refine wps_nil ?_) | (refine wps_ldI _ (by rfl) ?_)
            refine wps_stepV (val_lookS (some (sc (k : Int))) (by rw [hb]; rfl)) ?_
            repeat fail
            refine wps_wrS k rfl (by omega) ?_
            refine wps_pure (ent_prr (by (try dsimp only); rw [range_add1 hi2 (by omega)]; omega) (ent_ex (t + 1) (ent_ex (sl'.set k (sc (k : Int))) ?_)))
            refine ent_pick (ent_pick (ent_pickS (by rw [List.map_set]; rfl) (ent_pick ?_)))
            rw [star_right_comm]
            refine Ent.trans (B := H * (seqp sl' ((R.dk n).flushed fun q => pp q && (((R.dk n).keysI R.ns).take t).contains q).lasts * cachep sc (R.dk n).cached)) (Ent.of_eq (by simp only [← star_assoc, emp_star]; try ac_rfl)) ?_
            refine Ent.trans (Ent.starr (ent_and (B := seqp (sl'.set k (sc (k : Int))) ((R.dk n).flushed fun q => pp q && (((R.dk n).keysI R.ns).take (t + 1)).contains q).lasts) (C := cachep sc (R.dk n).cached) ?_ (ent_right _ _))) ?_
            · refine Ent.trans (seqp_set (k := k) (b := b) (ent_left _ _) (Ent.trans (ent_right _ _) (cachep_get hb))) (seqp_ext fun i _ => ?_)
              rw [hnxt i]
              by_cases hik : i = k <;> simp [hik, hpk]
            · simp only [← star_assoc]
              repeat first | (with_reducible refine ent_pick ?_) | (refine ent_prq ?_)
              all_goals first | exact ⟨range_add1 hi2 (by omega), by omega, by rw [range_add1 hs2 (by omega)]; omega, by simpa using hsl'⟩ | trivial
          · refine wps_pure (ent_prr (by (try dsimp only); rw [range_add1 hi2 (by omega)]; omega) (ent_ex (t + 1) (ent_ex sl' ?_)))
            have hq : Ent (seqp sl' ((R.dk n).flushed fun q => pp q && (((R.dk n).keysI R.ns).take t).contains q).lasts) (seqp sl' ((R.dk n).flushed fun q => pp q && (((R.dk n).keysI R.ns).take (t + 1)).contains q).lasts) := seqp_ext fun i _ => by
              rw [hnxt i, if_neg (fun e => hpk e.2)]
            refine ent_swap (A := seqp sl' ((R.dk n).flushed fun q => pp q && (((R.dk n).keysI R.ns).take t).contains q).lasts) hq ?_
            repeat first | (with_reducible refine ent_pick ?_) | (refine ent_prq ?_)
            all_goals first | exact ⟨range_add1 hi2 (by omega), by omega, by rw [range_add1 hs2 (by omega)]; omega, hsl'⟩ | trivial
        · have hte : t = ((R.dk n).keysN R.ns).length := by simp only [decide_eq_true_eq] at hc2; omega
          refine wps_mapR ?_
          repeat first | (with_reducible refine wps_nil ?_) | (refine wps_ld _ (by rfl) ?_)
          refine wps_clearS (wps_pure ?_)
          have hs2' : s2.1 = ((rank R ((n + 1) * R.ns) : Nat) : Int) := by rw [hs2, rank_succ, hte]
          rw [hs2']
          show Ent _ (pr _ * H * ex _)
          refine ent_exr ls ?_
          refine ent_exr mb ?_
          refine ent_exr sl' ?_
          refine ent_exr sc ?_
          simp only [← star_assoc]
          refine ent_pickC (by rfl) (ent_pick (ent_pickM (by rfl) (ent_pers ?_ (cachep_nil _ _))))
          have hq : Ent (seqp sl' ((R.dk n).flushed fun q => pp q && (((R.dk n).keysI R.ns).take t).contains q).lasts) (seqp sl' (Dk.restored R ks n).lasts) := seqp_ext fun i hi => by
            show _ = ((R.dk n).flushed fun k => keepB ks (rank R (n * R.ns + k.toNat)) && !(R.dk n).failed).lasts i
            rw [hpp]
            refine flushed_eq fun b hb => ?_
            have hmem : (i : Int) ∈ (R.dk n).keysI R.ns := (keysI_mem hD sc (i : Int)).2 (by simp [hb])
            have hlen : ((R.dk n).keysI R.ns).length = t := by rw [hte]; simp [Dk.keysI]
            rw [List.take_of_length_le (by omega)]
            simp [hmem]
          refine ent_swap (A := seqp sl' ((R.dk n).flushed fun q => pp q && (((R.dk n).keysI R.ns).take t).contains q).lasts) hq ?_
          have hok : (Dk.restored R ks n).ok R.ns := ⟨(Dk.ok_flushed hD fun k => keepB ks (rank R (n * R.ns + k.toNat)) && !(R.dk n).failed).1, fun j b h => by cases h⟩
          repeat first | (with_reducible refine ent_pick ?_) | (refine ent_prx ?_ ?_; rotate_left) | (refine ent_prq ?_)
          all_goals first | exact ⟨hsl', hd.2.1, hok⟩ | rfl | trivial
    · have hne : n = R.n := by simp only [decide_eq_true_eq] at hc; omega
      subst hne
      refine wps_mapR (wps_pure (Ent.starr (Ent.of_eq ?_)))
      unfold rackP
      simp only [Rk.restTo, Rk.restore]
      rw [bst_congr (F := rackF R.ns (fun j => if j < R.n then Dk.restored R ks j else R.dk j) ps) (F' := rackF R.ns (fun j => Dk.restored R ks j) ps) fun j hj => by simp [rackF, hj]]
      simp only [star_assoc]
end Go.Proofs.Ytldmeimebebllaa
namespace Go.Proofs.Ytldmeimebebllaa
open Go.Mo
set_option linter.unusedVariables false
variable {g : Fr} {cv : CV}
def flushL : List Int → Rk → Rk × Int
  | [], R => (R, 0)
  | d :: ds, R => if R.gate d 0 64 = 12 then (R.flush d, 12) else flushL ds (R.flush d)
theorem bank_Flush_spec (hcv : DisksOk cv) (bb rb : Nat) (q m : G3) (hq : q.1 ≤ 16) (R : Rk) (ds : Slc) (ps : List Nat) :
    wps g (bnk bb rb q m * rackP rb R ds ps) (bank_Bank_Flush cv (ptr bb)) (fun e => pr (e = (flushL (disksL q m) R).2) * bnk bb rb q m * rackP rb (flushL (disksL q m) R).1 ds ps) := by
  unfold bank_Bank_Flush
  repeat first | (with_reducible refine wps_alloc fun _ => ?_) | (refine wps_ld _ (by rfl) ?_)
  rename_i x1 x2
  refine wps_rangeF (F := emp)
    (fun i => ex fun R' : Rk => pr (flushL (disksL q m) R = flushL ((disksL q m).drop i) R') * rackP rb R' ds ps * pc x1 [.pointer (ptr bb)] * pc x2 [.int .i64 0])
    (fun j => match j with | .ret => ex fun R' : Rk => pr (flushL (disksL q m) R = (R', 12)) * rackP rb R' ds ps * pc x2 [.int .i64 12] | .exit _ => pr False)
    (fun i d t => pr (t = d) * (bnk bb rb q m * ex fun R' : Rk => pr (flushL (disksL q m) R = flushL ((disksL q m).drop i) R') * rackP rb R' ds ps * pc x1 [.pointer (ptr bb)] * pc x2 [.int .i64 0]))
    (disks_iter hcv bb rb q m hq) ?_ ?_ ?_ ?_ ?_ ?_
  · rw [emp_star]
    refine Ent.trans ?_ (Ent.starr (ent_ex R (Ent.refl _)))
    simp only [← star_assoc]
    exact ent_pickC (by rfl) (ent_pickC (by rfl) (ent_pick (ent_prx rfl ent_drop)))
  · intro i d hd g
    exact wps_pure (ent_prr rfl (Ent.refl _))
  · intro i d hd t g
    refine wps_pr fun ht => ?_
    subst ht
    refine wps_exP fun R' => ?_
    simp only [← star_assoc]
    refine wps_prP fun hR => ?_
    rw [drop_cons hd, flushL] at hR
    repeat first | (with_reducible refine wps_nil ?_) | (refine wps_ld _ (by rfl) ?_)
    refine wps_callH (fun _ => device_Rack_Flush_spec rb R' ds ps t) fun e => ?_
    simp only [← star_assoc]
    refine wps_prP fun he => ?_
    subst he
    refine wps_ite (fun h12 => ?_) (fun h12 => ?_)
    · have h12' : R'.gate t 0 64 = 12 := by simpa using h12
      rw [if_pos h12'] at hR
      repeat refine wps_st (by simp) ?_
      refine wps_pure ?_
      refine Ent.trans ?_ (Ent.starr (ent_ex (R'.flush t) (Ent.refl _)))
      simp only [← star_assoc]
      exact ent_pickC (by rw [h12']; rfl) (ent_pick (ent_prx hR ent_drop))
    · have h12' : ¬ R'.gate t 0 64 = 12 := by simpa using h12
      rw [if_neg h12'] at hR
      refine wps_pure ?_
      refine Ent.trans ?_ (Ent.starr (ent_ex (R'.flush t) (Ent.refl _)))
      simp only [← star_assoc]
      exact ent_pick (ent_pick (ent_pick (ent_prx hR ent_drop)))
  · intro D
    refine wps_exP fun R' => ?_
    simp only [← star_assoc]
    refine wps_prP fun hR => ?_
    rw [List.drop_length, flushL] at hR
    repeat refine wps_st (by simp) ?_
    refine wps_take ?_
    repeat refine wps_ld _ (by rfl) ?_
    refine wps_pure ?_
    rw [hR]
    exact ent_pick (ent_pick (ent_prq rfl))
  · intro D
    refine wps_exP fun R' => ?_
    simp only [← star_assoc]
    refine wps_prP fun hR => ?_
    refine wps_take ?_
    repeat refine wps_ld _ (by rfl) ?_
    refine wps_pure ?_
    rw [hR]
    exact ent_pick (ent_pick (ent_prq rfl))
  · intro D id
    exact wps_false (fun o ho => by
      have := ent_right _ _ o (ent_left _ _ o ho)
      exact ent_right _ _ o this)
theorem bank_Read_spec (bb rb : Nat) (q m : G3) (R : Rk) (ds : Slc) (ps : List Nat) (slot s : Int) :
    wps g (bnk bb rb q m * rackP rb R ds ps) (bank_Bank_Read (ptr bb) slot s) (fun x =>
      pr (x.2 = if (slotV q m slot).2 then R.rdErr (slotV q m slot).1 s else 11) * bnk bb rb q m * rackP rb R ds ps * own 1 x.1 (bv (if (slotV q m slot).2 then R.rd (slotV q m slot).1 s else []))) := by
  unfold bank_Bank_Read
  refine wps_valH (fun _ => bank_disk_val bb rb q m slot) ?_
  by_cases hv : (slotV q m slot).2 = true
  · simp only [hv, if_true]
    refine wps_ite (fun h => absurd h (by simp)) (fun _ => ?_)
    repeat first | (with_reducible refine wps_nil ?_) | (refine wps_ld _ (by rfl) ?_)
    refine wps_callH (fun _ => device_Rack_Read_spec rb R ds ps (slotV q m slot).1 s) fun x => wps_pure ?_
    simp only [← star_assoc]
    exact ent_pick (ent_pick (ent_pick ent_drop))
  · simp only [hv, if_false, Bool.false_eq_true]
    refine wps_ite (fun _ => wps_pure ?_) (fun h => absurd rfl h)
    exact ent_own0 (ent_pick (ent_pick (ent_prq rfl)))
def Rk.doom (R : Rk) (k c : Int) : Rk := if k < 0 ∨ k ≥ R.n then R else R.setD k.toNat { R.dk k.toNat with count := maxI c (-1) }
theorem device_Rack_Doom_spec (rb : Nat) (R : Rk) (ds : Slc) (ps : List Nat) (k c : Int) :
    wps g (rackP rb R ds ps) (device_Rack_Doom (ptr rb) k c) (fun e => pr (e = if k < 0 ∨ k ≥ R.n then 11 else 0) * rackP rb (R.doom k c) ds ps) := by
  unfold device_Rack_Doom
  have hp : Ent (rackP rb R ds ps) (pr (ps.length = R.n ∧ ds.len = R.n ∧ R.n ≤ 17 ∧ R.ns ≤ 4096)) := Ent.trans (ent_left _ _) (Ent.trans (ent_left _ _) (ent_left _ _))
  refine wps_fact hp fun ⟨h1, h2, h17, hns⟩ => ?_
  by_cases hk : k < 0 ∨ k ≥ R.n
  · rw [if_pos hk, Rk.doom, if_pos hk]
    refine wps_val (v := true) ?_ (wps_ite (fun _ => wps_pure (ent_prr rfl (Ent.refl _))) (fun h => absurd rfl h))
    unfold rackP
    apply val_eq
    · repeat first | (with_reducible refine wps_nil ?_) | (refine wps_ld _ (by rfl) ?_) | ((with_reducible apply val_ite); rotate_left; refine fun (_ : ¬ _) => ?_; rotate_right; refine fun (_ : _ = true) => ?_) | (with_reducible exact wps_pure (ent_val rfl))
    · rw [h2]
      by_cases h : k < 0
      · simp [h]
      · have : k ≥ R.n := by omega
        simp [h, this]
  · rw [if_neg hk, Rk.doom, if_neg hk]
    have hlt : k.toNat < R.n := by omega
    refine wps_val (v := false) ?_ (wps_ite (fun h => absurd h (by simp)) (fun _ => ?_))
    · unfold rackP
      apply val_eq
      · repeat first | (with_reducible refine wps_nil ?_) | (refine wps_ld _ (by rfl) ?_) | ((with_reducible apply val_ite); rotate_left; refine fun (_ : ¬ _) => ?_; rotate_right; refine fun (_ : _ = true) => ?_) | (with_reducible exact wps_pure (ent_val rfl))
      · rw [h2]
        have a : ¬ k < 0 := by omega
        have b : ¬ k ≥ R.n := by omega
        simp [a]; omega
    · rw [← rackP_set _ hlt, rackP_focus rb R ds ps hlt]
      repeat first | (with_reducible refine wps_nil ?_) | (refine wps_ld _ (by rfl) ?_)
      refine wps_rdS k.toNat (ptr (ps.getD k.toNat 0)) (by omega) (pv_get (by omega)) ?_
      simp only [dskAt, dskX]
      refine wps_exP fun ls => wps_exP fun mb => wps_exP fun sl => wps_exP fun sc => ?_
      simp only [← star_assoc]
      refine wps_prP fun hd => ?_
      repeat first | (with_reducible refine wps_nil ?_) | (refine wps_st (by simp) ?_)
      refine wps_pure ?_
      refine ent_exr ls ?_
      refine ent_exr mb ?_
      refine ent_exr sl ?_
      refine ent_exr sc ?_
      simp only [← star_assoc]
      exact ent_pickC (by rfl) (ent_pick (ent_pick (ent_pick (ent_pick (ent_prx hd (ent_pick (ent_pick (ent_pick (ent_pick (ent_prq trivial))))))))))
end Go.Proofs.Ytldmeimebebllaa
namespace Go.Proofs.Ytldmeimebebllaa
open Go.Mo
set_option linter.unusedVariables false
structure Settled (R : Rk) (f : Nat → Bool) : Prop where
  off : R.off = false
  count : R.count = -1
  failed : ∀ j, (R.dk j).failed = f j
  counts : ∀ j, (R.dk j).count = -1
theorem tickD {D : Dk} (h : D.count = -1) : D.tick = D := by
  obtain ⟨l, c, fl, k⟩ := D
  simp only at h
  subst h
  have hm : maxI (w64 (-1 - 1)) (-1) = -1 := by rw [w64m2]; rfl
  simp only [Dk.tick, hm]
  cases fl <;> rfl
theorem Settled.tick {R : Rk} {f : Nat → Bool} (h : Settled R f) : R.ticked = R := by
  have hdk : (fun j => (R.dk j).tick) = R.dk := by
    funext j; exact tickD (h.counts j)
  have hm : maxI (w64 (R.count - 1)) (-1) = R.count := by rw [h.count, w64m2]; rfl
  have hc : ¬ R.count = 0 := by rw [h.count]; omega
  simp only [Rk.ticked, if_neg hc, hdk, hm]
theorem Settled.gate {R : Rk} {f : Nat → Bool} (h : Settled R f) {k s : Int} (hk : 0 ≤ k ∧ k < R.n) (hs : 0 ≤ s ∧ s < R.ns) : R.gate k s 64 = if f k.toNat then 13 else 0 := by
  unfold Rk.gate
  have hr : ¬ (k < 0 ∨ k ≥ R.n ∨ s < 0 ∨ s ≥ R.ns) := by omega
  rw [if_neg (by simp [h.off]), if_neg hr, if_neg (by omega), if_neg (by rw [h.count]; omega), h.tick, h.failed]
theorem Settled.setD {R : Rk} {f : Nat → Bool} (h : Settled R f) {k : Nat} {D : Dk} (hf : D.failed = f k) (hc : D.count = -1) : Settled (R.setD k D) f := by
  refine ⟨h.off, h.count, fun j => ?_, fun j => ?_⟩
  · simp only [Rk.setD]; split
    · rename_i e; rw [e]; exact hf
    · exact h.failed j
  · simp only [Rk.setD]; split
    · exact hc
    · exact h.counts j
theorem gated_in {R : Rk} (ho : R.off = false) {k s : Int} (hk : 0 ≤ k ∧ k < R.n) (hs : 0 ≤ s ∧ s < R.ns) : R.gated k s 64 = R.ticked := by
  rw [Rk.gated, if_neg]
  rintro (h | h | h)
  · rw [ho] at h; cases h
  · omega
  · exact h rfl
theorem Settled.flush {R R1 : Rk} {f : Nat → Bool} {k : Int} (h : Settled R1 f) (hg : R.gated k 0 64 = R1) : Settled (R.flush k) f := by
  unfold Rk.flush
  rw [hg]
  split
  · exact h.setD (h.failed _) (h.counts _)
  · exact h
theorem flush_n {R : Rk} (k : Int) : (R.flush k).n = R.n ∧ (R.flush k).ns = R.ns := by
  have hg : (R.gated k 0 64).n = R.n ∧ (R.gated k 0 64).ns = R.ns := by
    unfold Rk.gated Rk.ticked
    split
    · exact ⟨rfl, rfl⟩
    · split <;> exact ⟨rfl, rfl⟩
  unfold Rk.flush
  split
  · exact hg
  · exact hg
theorem Settled.flushL {f : Nat → Bool} : ∀ {xs : List Int} {R : Rk}, Settled R f → (∀ d ∈ xs, 0 ≤ d ∧ d < R.n) → 0 < R.ns →
    (flushL xs R).2 = 0 ∧ Settled (flushL xs R).1 f ∧ (flushL xs R).1.n = R.n ∧ (flushL xs R).1.ns = R.ns
  | [], R, h, _, _ => ⟨rfl, h, rfl, rfl⟩
  | d :: xs, R, h, hx, hs => by
    have hd := hx d (by simp)
    have hg := h.gate hd (s := 0) (by omega)
    have h12 : ¬ R.gate d 0 64 = 12 := by rw [hg]; split <;> omega
    simp only [Proofs.Ytldmeimebebllaa.flushL, if_neg h12]
    have hf := h.flush (R := R) (k := d) (by rw [gated_in h.off hd (by omega), h.tick])
    have hn := flush_n (R := R) d
    have ih := Settled.flushL (xs := xs) hf (by rw [hn.1]; exact fun d' hd' => hx d' (by simp [hd'])) (by rw [hn.2]; exact hs)
    rw [hn.1, hn.2] at ih
    exact ih
structure Armed (R : Rk) (f : Nat → Bool) : Prop where
  off : R.off = false
  count : R.count = -1
  failed : ∀ j, (R.dk j).failed = false
  counts : ∀ j, (R.dk j).count = if f j then 0 else -1
theorem Armed.tick {R : Rk} {f : Nat → Bool} (h : Armed R f) : Settled R.ticked f := by
  have hc : ¬ R.count = 0 := by rw [h.count]; omega
  have hm : maxI (w64 (R.count - 1)) (-1) = -1 := by rw [h.count, w64m2]; rfl
  simp only [Rk.ticked, if_neg hc, hm]
  refine ⟨h.off, rfl, fun j => ?_, fun j => ?_⟩
  · simp only [h.failed, h.counts]
    cases f j <;> rfl
  · simp only [h.counts]
    have e1 : w64 (-1 - 1) = -2 := w64m2
    have e2 : w64 (0 - 1) = -1 := w64_id (by omega) (by omega)
    cases f j
    · show maxI (w64 (-1 - 1)) (-1) = -1
      rw [e1]; rfl
    · show maxI (w64 (0 - 1)) (-1) = -1
      rw [e2]; rfl
theorem Armed.flushL {f : Nat → Bool} {d : Int} {xs : List Int} {R : Rk} (h : Armed R f) (hx : ∀ d' ∈ d :: xs, 0 ≤ d' ∧ d' < R.n) (hs : 0 < R.ns) :
    (flushL (d :: xs) R).2 = 0 ∧ Settled (flushL (d :: xs) R).1 f ∧ (flushL (d :: xs) R).1.n = R.n ∧ (flushL (d :: xs) R).1.ns = R.ns := by
  have hd := hx d (by simp)
  have hgd := gated_in h.off hd (s := 0) (by omega)
  have h12 : ¬ R.gate d 0 64 = 12 := by
    unfold Rk.gate
    have hr : ¬ (d < 0 ∨ d ≥ R.n ∨ (0 : Int) < 0 ∨ (0 : Int) ≥ R.ns) := by omega
    rw [if_neg (by simp [h.off]), if_neg hr, if_neg (by omega), if_neg (by rw [h.count]; omega)]
    split <;> omega
  simp only [Proofs.Ytldmeimebebllaa.flushL, if_neg h12]
  have hf := h.tick.flush (R := R) (k := d) hgd
  have hn := flush_n (R := R) d
  have ih := Settled.flushL (xs := xs) hf (by rw [hn.1]; exact fun d' hd' => hx d' (by simp [hd'])) (by rw [hn.2]; exact hs)
  rw [hn.1, hn.2] at ih
  exact ih
end Go.Proofs.Ytldmeimebebllaa
namespace Go.Proofs.Ytldmeimebebllaa
open Go.Mo
set_option linter.unusedVariables false
variable {g : Fr} {cv : CV}
theorem ref00_CopyBytes_spec {H : HP} {s : Slc} {b : List Int} (hx : Ent H (byt s b)) (hb : b.length ≤ 1099511627776) : wps g H (ref00_CopyBytes s) (fun s' => H * own 1 s' (bv b)) := by
  unfold ref00_CopyBytes
  refine wps_fact (len_of hx) fun hl => ?_
  repeat with_reducible refine wps_alloc fun _ => ?_
  rename_i c
  refine wps_swap (A := pc c []) (B := own 1 ⟨some ⟨c, 0, none⟩, 0, 0⟩ []) (pc_own (n := 0) (z := 1) rfl) ?_
  refine wps_app 1 (bv b) rfl (by decide) (Ent.trans (ent_left _ _) hx) (bv_one b) (by (try dsimp only); omega) fun s' hs' => ?_
  exact wps_pure (Ent.of_eq (by simp))
structure Rk.cok (R : Rk) : Prop where
  pow : -1 ≤ R.count ∧ R.count < 9223372036854775808
  dks : ∀ j, -1 ≤ (R.dk j).count ∧ (R.dk j).count < 9223372036854775808
structure RQ (R : Rk) (l1 l2 l3 l4 : Slc) (sl cl : List Slc) (cs : List Int) : Prop where
  hsl : sl.length = R.n * R.ns
  hcl : cl.length = R.n * R.ns
  hcs : cs.length = R.n
  n17 : R.n ≤ 17
  ns4 : R.ns ≤ 4096
  hl1 : l1.len = R.n * R.ns
  hl2 : l2.len = R.n * R.ns
  hl3 : l3.len = R.n
  hl4 : l4.len = R.n
  ok : ∀ j, j < R.n → (R.dk j).ok R.ns
  cnt : ∀ j, j < R.n → (R.dk j).failed = false → cs[j]? = some (R.dk j).count
  cok : R.cok
def refX4 (mb : Nat) (R : Rk) (l1 l2 l3 l4 : Slc) (sl cl : List Slc) (cs : List Int) : HP :=
  pr (RQ R l1 l2 l3 l4 sl cl cs) * seqp sl (rlast R) * seqp cl (rcach R) * own 1 l1 (sl.map vS) * own 1 l2 (cl.map vS) * own 1 l3 (bads R) * own 1 l4 (zv cs) * pc mb [.int .i64 R.n, .int .i64 R.ns, vS l1, vS l2, vS l3, vS l4, .int .i64 R.count, .bool R.off]
def refQ (mb : Nat) (R : Rk) (l1 l2 l3 l4 : Slc) : HP := ex fun sl : List Slc => ex fun cl : List Slc => ex fun cs : List Int => refX4 mb R l1 l2 l3 l4 sl cl cs
theorem ok_new (s : Nat) : Dk.new.ok s := ⟨fun _ _ => by simp [Dk.new, noughts], fun _ _ h => by cases h⟩
theorem cok_new (n s : Nat) : (Rk.new n s).cok := ⟨by simp [Rk.new], fun j => by simp [Rk.new, Dk.new]⟩
theorem refQ_new {mb : Nat} {v : RefT} {n s : Nat} : Ent (refV v (Rk.new n s) * pc mb (refC v)) (refQ mb (Rk.new n s) v.2.2.1 v.2.2.2.1 v.2.2.2.2.1 v.2.2.2.2.2.1) := by
  unfold refV refX
  rw [ex_star]
  refine ex_ent fun sl => ?_
  rw [ex_star]
  refine ex_ent fun cl => ?_
  simp only [star_assoc]
  refine pr_ent fun h => ?_
  simp only [← star_assoc]
  refine ent_ex sl (ent_ex cl (ent_ex (List.replicate n (-1)) ?_))
  unfold refX4
  have h1 := h.n; have h2 := h.ns; have h3 := h.count; have h4 := h.off
  refine ent_pickC (by simp only [refC]; rw [h1, h2, h3, h4]) (ent_pickS ?_ ?_)
  · simp only [cnts, zv, List.map_replicate]
    rw [show (fun j => Value.int .i64 ((Rk.new n s).dk j).count) = fun _ => Value.int .i64 (-1) from rfl]
    rw [List.map_const']; simp [Rk.new]
  · repeat first | (with_reducible refine ent_pick ?_) | (refine ent_prq ?_)
    refine ⟨h.sl, h.cl, by simp [Rk.new], h.n17, h.ns4, h.l1, h.l2, h.l3, h.l4, fun j _ => ok_new _, fun j hj _ => ?_, cok_new n s⟩
    have : j < n := hj
    simp [Rk.new, Dk.new, this]
theorem flat_div {k s ns : Nat} (h : s < ns) : (k * ns + s) / ns = k ∧ (k * ns + s) % ns = s := by
  have h0 : 0 < ns := by omega
  rw [Nat.mul_comm]
  refine ⟨?_, ?_⟩
  · rw [Nat.mul_add_div h0, Nat.div_eq_of_lt h]; omega
  · rw [Nat.mul_add_mod, Nat.mod_eq_of_lt h]
theorem flat_lt {k s n ns : Nat} (hk : k < n) (hs : s < ns) : k * ns + s < n * ns := by
  have : (k + 1) * ns ≤ n * ns := Nat.mul_le_mul_right _ hk
  rw [Nat.add_mul] at this; omega
theorem flat_w {k s : Int} {n ns : Nat} (hk : 0 ≤ k ∧ k < n) (hs : 0 ≤ s ∧ s < ns) (h17 : n ≤ 17) (h4 : ns ≤ 4096) : w64 (w64 (k * (ns : Int)) + s) = ((k.toNat * ns + s.toNat : Nat) : Int) := by
  obtain ⟨K, rfl⟩ : ∃ K : Nat, k = (K : Int) := ⟨k.toNat, by omega⟩
  obtain ⟨S, rfl⟩ : ∃ S : Nat, s = (S : Int) := ⟨s.toNat, by omega⟩
  have h1 : K * ns ≤ 17 * 4096 := Nat.mul_le_mul (by omega) h4
  rw [← Int.natCast_mul, w64_id (n := ((K * ns : Nat) : Int)) (by omega) (by omega), w64_id] <;> (try simp only [Int.toNat_natCast]) <;> omega
def thereB (R : Rk) (k s : Int) : Bool := decide (0 ≤ k ∧ k < R.n ∧ 0 ≤ s ∧ s < R.ns)
theorem ref02_there_val (mb : Nat) (R : Rk) (l1 l2 l3 l4 : Slc) (k s : Int) : Val g (refQ mb R l1 l2 l3 l4) (ref02_Rack_there (ptr mb) k s) (thereB R k s) := by
  unfold ref02_Rack_there refQ refX4
  refine wps_ex fun sl => wps_ex fun cl => wps_ex fun cs => ?_
  refine wps_conseq (H' := pr (RQ R l1 l2 l3 l4 sl cl cs) * seqp sl (rlast R) * seqp cl (rcach R) * own 1 l1 (sl.map vS) * own 1 l2 (cl.map vS) * own 1 l3 (bads R) * own 1 l4 (zv cs) * pc mb [.int .i64 R.n, .int .i64 R.ns, vS l1, vS l2, vS l3, vS l4, .int .i64 R.count, .bool R.off]) (Q' := fun x => pr (x = thereB R k s) * (pr (RQ R l1 l2 l3 l4 sl cl cs) * seqp sl (rlast R) * seqp cl (rcach R) * own 1 l1 (sl.map vS) * own 1 l2 (cl.map vS) * own 1 l3 (bads R) * own 1 l4 (zv cs) * pc mb [.int .i64 R.n, .int .i64 R.ns, vS l1, vS l2, vS l3, vS l4, .int .i64 R.count, .bool R.off])) ?_ (Ent.refl _) (fun x => Ent.starr (ent_ex sl (ent_ex cl (ent_ex cs (Ent.refl _)))))
  apply val_eq
  · repeat first | (with_reducible refine wps_nil ?_) | (refine wps_ld _ (by rfl) ?_) | ((with_reducible apply wps_val); apply val_ite; rotate_left; refine fun (_ : ¬ _) => ?_; rotate_right; refine fun (_ : _ = true) => ?_) | (with_reducible exact wps_pure (ent_val rfl))
  · unfold thereB
    by_cases a : 0 ≤ k <;> by_cases b : k < (R.n : Int) <;> by_cases c : 0 ≤ s <;> by_cases d : s < (R.ns : Int) <;> simp [a, b, c, d]
theorem ref02_Failed_val (mb : Nat) (R : Rk) (l1 l2 l3 l4 : Slc) (k : Int) : Val g (refQ mb R l1 l2 l3 l4) (ref02_Rack_Failed (ptr mb) k) (R.failedB k) := by
  unfold ref02_Rack_Failed refQ refX4
  refine wps_ex fun sl => wps_ex fun cl => wps_ex fun cs => ?_
  refine wps_factP fun hq => ?_
  refine wps_conseq (H' := pr (RQ R l1 l2 l3 l4 sl cl cs) * seqp sl (rlast R) * seqp cl (rcach R) * own 1 l1 (sl.map vS) * own 1 l2 (cl.map vS) * own 1 l3 (bads R) * own 1 l4 (zv cs) * pc mb [.int .i64 R.n, .int .i64 R.ns, vS l1, vS l2, vS l3, vS l4, .int .i64 R.count, .bool R.off]) (Q' := fun x => pr (x = R.failedB k) * (pr (RQ R l1 l2 l3 l4 sl cl cs) * seqp sl (rlast R) * seqp cl (rcach R) * own 1 l1 (sl.map vS) * own 1 l2 (cl.map vS) * own 1 l3 (bads R) * own 1 l4 (zv cs) * pc mb [.int .i64 R.n, .int .i64 R.ns, vS l1, vS l2, vS l3, vS l4, .int .i64 R.count, .bool R.off])) ?_ (Ent.refl _) (fun x => Ent.starr (ent_ex sl (ent_ex cl (ent_ex cs (Ent.refl _)))))
  refine wps_val (v := decide (0 ≤ k ∧ k < R.n)) ?_ ?_
  · apply val_eq
    · repeat first | (with_reducible refine wps_nil ?_) | (refine wps_ld _ (by rfl) ?_) | ((with_reducible apply val_ite); rotate_left; refine fun (_ : ¬ _) => ?_; rotate_right; refine fun (_ : _ = true) => ?_) | (with_reducible exact wps_pure (ent_val rfl))
    · by_cases h : 0 ≤ k <;> simp [h]
  · by_cases hk : 0 ≤ k ∧ k < R.n
    · simp only [hk, and_self, decide_true, if_true, Rk.failedB, bindM_assoc]
      repeat first | (with_reducible refine wps_nil ?_) | (refine wps_ld _ (by rfl) ?_)
      refine wps_rdS k.toNat (R.dk k.toNat).failed (by omega) ?_ ?_
      · rw [bads, List.getElem?_map, List.getElem?_range (by omega)]; rfl
      · repeat first | (with_reducible refine wps_bindpure ?_) | (with_reducible exact wps_pure (ent_val rfl))
    · simp only [hk, decide_false, Rk.failedB, if_false, Bool.false_eq_true]
      repeat first | (with_reducible refine wps_bindpure ?_) | (with_reducible exact wps_pure (ent_val rfl))
end Go.Proofs.Ytldmeimebebllaa
namespace Go.Proofs.Ytldmeimebebllaa
open Go.Mo
set_option linter.unusedVariables false
variable {g : Fr} {cv : CV}
theorem there_true {R : Rk} {k s : Int} (h : thereB R k s = true) : (0 ≤ k ∧ k < R.n) ∧ (0 ≤ s ∧ s < R.ns) := by
  simp only [thereB, decide_eq_true_eq] at h; omega
theorem there_or {R : Rk} {k s : Int} : thereB R k s = true ↔ ¬ (k < 0 ∨ k ≥ R.n ∨ s < 0 ∨ s ≥ R.ns) := by
  simp only [thereB, decide_eq_true_eq]; omega
theorem RQ.at {R : Rk} {l1 l2 l3 l4 : Slc} {sl cl : List Slc} {cs : List Int} (h : RQ R l1 l2 l3 l4 sl cl cs) {k s : Int} (ht : thereB R k s = true) :
    ∃ i : Nat, i < R.n * R.ns ∧ i = k.toNat * R.ns + s.toNat ∧ w64 (w64 (k * (R.ns : Int)) + s) = (i : Int) ∧ rlast R i = (R.dk k.toNat).lasts s.toNat ∧ rcach R i = ((R.dk k.toNat).cached s).getD [] ∧ k.toNat < R.n ∧ s.toNat < R.ns := by
  obtain ⟨hk, hs⟩ := there_true ht
  have hd := flat_div (k := k.toNat) (s := s.toNat) (ns := R.ns) (by omega)
  refine ⟨k.toNat * R.ns + s.toNat, flat_lt (by omega) (by omega), rfl, flat_w hk hs h.n17 h.ns4, ?_, ?_, by omega, by omega⟩
  · rw [rlast, hd.1, hd.2]
  · rw [rcach, hd.1, hd.2, show ((s.toNat : Nat) : Int) = s by omega]
theorem ref02_Read_spec (mb : Nat) (R : Rk) (l1 l2 l3 l4 : Slc) (k s : Int) :
    wps g (refQ mb R l1 l2 l3 l4) (ref02_Rack_Read (ptr mb) k s) (fun x => pr (x.2 = R.rdErr k s) * refQ mb R l1 l2 l3 l4 * own 1 x.1 (bv (R.rd k s))) := by
  unfold ref02_Rack_Read
  have hoff : ∀ {α : Type} {K : Bool → M α} {Q : α → HP}, wps g (refQ mb R l1 l2 l3 l4) (K R.off) Q → wps g (refQ mb R l1 l2 l3 l4) (bindM (ld Value.bool ⟨mb, 7, none⟩) K) Q := by
    intro α K Q h
    refine wps_val (v := R.off) ?_ h
    show wps g _ (bindM (ld Value.bool ⟨mb, 7, none⟩) pureM) _
    unfold refQ refX4
    refine wps_ex fun sl => wps_ex fun cl => wps_ex fun cs => ?_
    repeat refine wps_ld _ (by rfl) ?_
    exact wps_pure (ent_prr rfl (ent_ex sl (ent_ex cl (ent_ex cs (Ent.refl _)))))
  repeat with_reducible refine wps_nil ?_
  refine hoff ?_
  by_cases ho : R.off = true
  · have he : R.rdErr k s = 12 := by simp [Rk.rdErr, ho]
    rw [if_pos ho]
    refine wps_pure ?_
    simp only [Rk.rd, he]
    exact ent_own0 (ent_prr (by simp) (Ent.refl _))
  rw [if_neg ho]
  refine wps_val (ref02_there_val mb R l1 l2 l3 l4 k s) ?_
  by_cases ht : thereB R k s = true
  · have hn := there_or.1 ht
    rw [ht]
    refine wps_ite (fun h => absurd h (by decide)) (fun _ => ?_)
    unfold refQ
    refine wps_exP fun sl => wps_exP fun cl => wps_exP fun cs => ?_
    unfold refX4
    simp only [← star_assoc]
    refine wps_factP fun hq => ?_
    obtain ⟨i, hi, _, hw, hl, hc, hk, hs⟩ := hq.at ht
    obtain ⟨hk2, hs2⟩ := there_true ht
    repeat first | (with_reducible refine wps_nil ?_) | (refine wps_ld _ (by rfl) ?_)
    refine wps_rdS k.toNat (R.dk k.toNat).failed (by omega) (by rw [bads, List.getElem?_map, List.getElem?_range hk]; rfl) ?_
    refine wps_ite (fun hf => wps_pure ?_) (fun hf => ?_)
    · have he : R.rdErr k s = 13 := by simp only [Rk.rdErr, if_neg ho, if_neg hn, if_pos hf]
      simp only [Rk.rd, he]
      refine ent_own0 (ent_exr sl (ent_exr cl (ent_exr cs ?_)))
      simp only [← star_assoc]
      repeat first | (with_reducible refine ent_pick ?_) | (refine ent_prq ?_)
      all_goals first | exact hq | rfl | trivial
    · have he : R.rdErr k s = 0 := by simp only [Rk.rdErr, if_neg ho, if_neg hn, if_neg hf]
      simp only [Rk.rd, he, if_true]
      repeat first | (with_reducible refine wps_nil ?_) | (refine wps_ld _ (by rfl) ?_)
      rw [hw]
      have hil : i < sl.length := by rw [hq.hsl]; exact hi
      have hic : i < cl.length := by rw [hq.hcl]; exact hi
      have close : ∀ s', Ent (emp * pr (RQ R l1 l2 l3 l4 sl cl cs) * seqp sl (rlast R) * seqp cl (rcach R) * own 1 l1 (sl.map vS) * own 1 l2 (cl.map vS) * own 1 l3 (bads R) * own 1 l4 (zv cs) * pc mb [.int .i64 R.n, .int .i64 R.ns, vS l1, vS l2, vS l3, vS l4, .int .i64 R.count, .bool R.off] * own 1 s' (bv ((R.dk k.toNat).sec s)))
          (pr (((s', 0) : Slc × Int).2 = 0) * (ex fun sl : List Slc => ex fun cl : List Slc => ex fun cs : List Int => pr (RQ R l1 l2 l3 l4 sl cl cs) * seqp sl (rlast R) * seqp cl (rcach R) * own 1 l1 (sl.map vS) * own 1 l2 (cl.map vS) * own 1 l3 (bads R) * own 1 l4 (zv cs) * pc mb [.int .i64 R.n, .int .i64 R.ns, vS l1, vS l2, vS l3, vS l4, .int .i64 R.count, .bool R.off]) * own 1 s' (bv ((R.dk k.toNat).sec s))) := by
        intro s'
        refine ent_pick ?_
        refine ent_exr sl ?_
        refine ent_exr cl ?_
        refine ent_exr cs ?_
        simp only [← star_assoc]
        repeat first | (with_reducible refine ent_pick ?_) | (refine ent_prq ?_)
        all_goals first | exact hq | rfl | trivial
      refine wps_rdS i cl[i] rfl (by rw [List.getElem?_map, List.getElem?_eq_getElem hic]; rfl) ?_
      have hcb : Ent (seqp cl (rcach R)) (byt cl[i] (rcach R i)) := seqp_get (List.getElem?_eq_getElem hic)
      refine wps_fact (len_of (Ent.trans (ent_drop (B := seqp cl (rcach R))) hcb)) fun hcl => ?_
      cases hcs : (R.dk k.toNat).cached s with
      | some b =>
        have hb : rcach R i = b := by rw [hc, hcs]; rfl
        have hbl := ((hq.ok _ hk).2 s b hcs).1
        have hsec : (R.dk k.toNat).sec s = rcach R i := by rw [hb]; simp [Dk.sec, hcs]
        refine wps_ite (fun _ => ?_) (fun h => ?_)
        · repeat first | (with_reducible refine wps_nil ?_) | (refine wps_ld _ (by rfl) ?_)
          refine wps_rdS i cl[i] rfl (by rw [List.getElem?_map, List.getElem?_eq_getElem hic]; rfl) ?_
          refine wps_bind1 (ref00_CopyBytes_spec (b := (R.dk k.toNat).sec s) (Ent.trans (ent_drop (B := seqp cl (rcach R))) (by rw [hsec]; exact hcb)) (by rw [hsec, hb]; omega)) fun s' => wps_pure ?_
          exact Ent.trans (Ent.of_eq (by simp only [emp_star])) (close s')
        · exfalso
          rw [hb] at hcl
          simp only [decide_eq_true_eq] at h; omega
      | none =>
        have hb : rcach R i = [] := by rw [hc, hcs]; rfl
        have hsec : (R.dk k.toNat).sec s = rlast R i := by rw [hl]; simp [Dk.sec, hcs]
        have hlen : (rlast R i).length = 64 := by rw [hl]; exact (hq.ok _ hk).1 _ hs
        refine wps_ite (fun h => ?_) (fun h => ?_)
        · exfalso
          rw [hb] at hcl
          simp only [decide_eq_true_eq, List.length_nil] at h hcl; omega
        · repeat first | (with_reducible refine wps_nil ?_) | (refine wps_ld _ (by rfl) ?_)
          refine wps_rdS i sl[i] rfl (by rw [List.getElem?_map, List.getElem?_eq_getElem hil]; rfl) ?_
          refine wps_bind1 (ref00_CopyBytes_spec (b := (R.dk k.toNat).sec s) (Ent.trans (ent_drop (B := seqp sl (rlast R))) (by rw [hsec]; exact seqp_get (List.getElem?_eq_getElem hil))) (by rw [hsec, hlen]; omega)) fun s' => wps_pure ?_
          exact Ent.trans (Ent.of_eq (by simp only [emp_star])) (close s')
  · have hn : (k < 0 ∨ k ≥ R.n ∨ s < 0 ∨ s ≥ R.ns) := Classical.byContradiction fun h => ht (there_or.2 h)
    have he : R.rdErr k s = 11 := by simp only [Rk.rdErr, if_neg ho, if_pos hn]
    rw [show thereB R k s = false by simpa using ht]
    refine wps_ite (fun _ => wps_pure ?_) (fun h => absurd rfl h)
    simp only [Rk.rd, he]
    exact ent_own0 (ent_prr (by simp) (Ent.refl _))
end Go.Proofs.Ytldmeimebebllaa
namespace Go.Proofs.Ytldmeimebebllaa
open Go.Mo
set_option linter.unusedVariables false
variable {g : Fr} {cv : CV}
theorem maxI_bnd {c : Int} (h : c < 9223372036854775808) : -1 ≤ maxI c (-1) ∧ maxI c (-1) < 9223372036854775808 := by
  rw [maxI]; split <;> omega
theorem cnt_tick {c : Int} (h : -1 ≤ c ∧ c < 9223372036854775808) : -1 ≤ maxI (w64 (c - 1)) (-1) ∧ maxI (w64 (c - 1)) (-1) < 9223372036854775808 := by
  rw [w64_id (by omega) (by omega), maxI]; split <;> omega
theorem Rk.cok.arm {R : Rk} (h : R.cok) {c : Int} (hc : c < 9223372036854775808) : (R.arm c).cok := ⟨maxI_bnd hc, h.dks⟩
theorem Rk.cok.setD {R : Rk} (h : R.cok) {k : Nat} {D : Dk} (hD : -1 ≤ D.count ∧ D.count < 9223372036854775808) : (R.setD k D).cok := ⟨h.pow, fun j => by
  simp only [Rk.setD]; split
  · exact hD
  · exact h.dks j⟩
theorem Rk.cok.doom {R : Rk} (h : R.cok) {k c : Int} (hc : c < 9223372036854775808) : (R.doom k c).cok := by
  rw [Rk.doom]; split
  · exact h
  · exact h.setD (maxI_bnd hc)
theorem Rk.cok.ticked {R : Rk} (h : R.cok) : R.ticked.cok := by
  rw [Rk.ticked]; split
  · exact ⟨h.pow, h.dks⟩
  · exact ⟨cnt_tick h.pow, fun j => cnt_tick (h.dks j)⟩
theorem ref02_Arm_spec (mb : Nat) (R : Rk) (l1 l2 l3 l4 : Slc) (c : Int) (hc : c < 9223372036854775808) : wps g (refQ mb R l1 l2 l3 l4) (ref02_Rack_Arm (ptr mb) c) (fun _ => refQ mb (R.arm c) l1 l2 l3 l4) := by
  unfold ref02_Rack_Arm refQ refX4
  refine wps_ex fun sl => wps_ex fun cl => wps_ex fun cs => ?_
  refine wps_prP fun hq => ?_
  repeat first | (with_reducible refine wps_nil ?_) | (refine wps_st (by simp) ?_)
  refine wps_pure ?_
  refine ent_ex sl (ent_ex cl (ent_ex cs ?_))
  refine ent_pickC (by rfl) ?_
  have e1 : rlast (R.arm c) = rlast R := rfl
  have e2 : rcach (R.arm c) = rcach R := rfl
  have e3 : bads (R.arm c) = bads R := rfl
  rw [e1, e2, e3]
  repeat first | (with_reducible refine ent_pick ?_) | (refine ent_prq ?_)
  exact ⟨hq.hsl, hq.hcl, hq.hcs, hq.n17, hq.ns4, hq.hl1, hq.hl2, hq.hl3, hq.hl4, hq.ok, hq.cnt, hq.cok.arm hc⟩
theorem ref02_Doom_spec (mb : Nat) (R : Rk) (l1 l2 l3 l4 : Slc) (k c : Int) (hc : c < 9223372036854775808) :
    wps g (refQ mb R l1 l2 l3 l4) (ref02_Rack_Doom (ptr mb) k c) (fun e => pr (e = if k < 0 ∨ k ≥ R.n then 11 else 0) * refQ mb (R.doom k c) l1 l2 l3 l4) := by
  unfold ref02_Rack_Doom refQ refX4
  refine wps_ex fun sl => wps_ex fun cl => wps_ex fun cs => ?_
  refine wps_factP fun hq => ?_
  refine wps_val (v := decide (k < 0 ∨ k ≥ R.n)) ?_ ?_
  · apply val_eq
    · repeat first | (with_reducible refine wps_nil ?_) | (refine wps_ld _ (by rfl) ?_) | ((with_reducible apply val_ite); rotate_left; refine fun (_ : ¬ _) => ?_; rotate_right; refine fun (_ : _ = true) => ?_) | (with_reducible exact wps_pure (ent_val rfl))
    · by_cases h : k < 0 <;> by_cases h' : k ≥ (R.n : Int) <;> simp [h, h']
  by_cases hk : k < 0 ∨ k ≥ R.n
  · rw [if_pos hk, Rk.doom, if_pos hk]
    refine wps_ite (fun _ => wps_pure ?_) (fun h => absurd (by simpa using hk) h)
    exact ent_prr rfl (ent_ex sl (ent_ex cl (ent_ex cs (Ent.refl _))))
  · rw [if_neg hk, Rk.doom, if_neg hk]
    refine wps_ite (fun h => absurd (by simpa using h) hk) (fun _ => ?_)
    have hlt : k.toNat < R.n := by omega
    repeat first | (with_reducible refine wps_nil ?_) | (refine wps_ld _ (by rfl) ?_)
    refine wps_wrS k.toNat (by omega) (by rw [hq.hl4]; exact hlt) (wps_pure ?_)
    refine ent_prr rfl (ent_ex sl (ent_ex cl (ent_ex (cs.set k.toNat (maxI c (-1))) ?_)))
    refine ent_pickC (by rfl) (ent_pickS (cs' := zv (cs.set k.toNat (maxI c (-1)))) (by simp [zv, List.map_set]) ?_)
    have hdk : ∀ j, ((R.setD k.toNat { R.dk k.toNat with count := maxI c (-1) }).dk j).lasts = (R.dk j).lasts ∧ ((R.setD k.toNat { R.dk k.toNat with count := maxI c (-1) }).dk j).cached = (R.dk j).cached ∧ ((R.setD k.toNat { R.dk k.toNat with count := maxI c (-1) }).dk j).failed = (R.dk j).failed := by
      intro j
      simp only [Rk.setD]
      by_cases hj : j = k.toNat
      · subst hj; simp
      · simp [hj]
    have e1 : rlast (R.setD k.toNat { R.dk k.toNat with count := maxI c (-1) }) = rlast R := by
      funext i; simp only [rlast, (hdk _).1]; rfl
    have e2 : rcach (R.setD k.toNat { R.dk k.toNat with count := maxI c (-1) }) = rcach R := by
      funext i; simp only [rcach, (hdk _).2.1]; rfl
    have e3 : bads (R.setD k.toNat { R.dk k.toNat with count := maxI c (-1) }) = bads R := by
      simp only [bads, (hdk _).2.2]; rfl
    rw [e1, e2, e3]
    repeat first | (with_reducible refine ent_pick ?_) | (refine ent_prq ?_)
    all_goals first | trivial | skip
    refine ⟨hq.hsl, hq.hcl, by rw [List.length_set]; exact hq.hcs, hq.n17, hq.ns4, hq.hl1, hq.hl2, hq.hl3, hq.hl4, fun j hj => ?_, fun j hj hf => ?_, hq.cok.setD (maxI_bnd hc)⟩
    · have := hq.ok j hj
      exact ⟨fun q hq' => by rw [(hdk j).1]; exact this.1 q hq', fun q b hb => by rw [(hdk j).2.1] at hb; exact this.2 q b hb⟩
    · by_cases hjk : j = k.toNat
      · subst hjk
        rw [List.getElem?_set_self (by rw [hq.hcs]; exact hlt)]
        simp [Rk.setD]
      · rw [List.getElem?_set_ne (fun e => hjk e.symm)]
        rw [(hdk j).2.2] at hf
        rw [hq.cnt j hj hf]
        simp [Rk.setD, hjk]
def badsT (R : Rk) (i : Nat) : List Value := (List.range R.n).map fun j => .bool (R.part i j).failed
theorem bads_set {n i : Nat} (hi : i < n) {f f' : Nat → Bool} {v : Bool} (hv : f' i = v) (h : ∀ j, j < n → j ≠ i → f' j = f j) : ((List.range n).map fun j => Value.bool (f j)).set i (.bool v) = (List.range n).map fun j => Value.bool (f' j) := by
  apply List.ext_getElem?
  intro q
  rw [List.getElem?_set]
  simp only [List.getElem?_map, List.length_map, List.length_range]
  by_cases hq : q < n
  · rw [List.getElem?_range hq]
    by_cases e : i = q
    · subst e; simp [hv, hq]
    · have e' : q ≠ i := fun h => e h.symm
      simp [e, h q hq e']
  · rw [List.getElem?_eq_none (by simpa using hq)]
    have : ¬ i = q := by omega
    simp [this]
theorem bads_same {n : Nat} {f f' : Nat → Bool} (h : ∀ j, j < n → f' j = f j) : ((List.range n).map fun j => Value.bool (f j)) = (List.range n).map fun j => Value.bool (f' j) := by
  apply List.map_congr_left
  intro j hj
  rw [h j (List.mem_range.1 hj)]
theorem ref02_call_spec (mb : Nat) (R : Rk) (l1 l2 l3 l4 : Slc) : wps g (refQ mb R l1 l2 l3 l4) (ref02_Rack_call (ptr mb)) (fun e => pr (e = if R.count = 0 then 12 else 0) * refQ mb R.ticked l1 l2 l3 l4) := by
  unfold ref02_Rack_call refQ refX4
  refine wps_ex fun sl => wps_ex fun cl => wps_ex fun cs => ?_
  refine wps_prP fun hq => ?_
  repeat first | (with_reducible refine wps_nil ?_) | (refine wps_ld _ (by rfl) ?_)
  refine wps_ite (fun ho => ?_) (fun ho => ?_)
  · have ho' : R.count = 0 := by simpa using ho
    repeat first | (with_reducible refine wps_nil ?_) | (refine wps_st (by simp) ?_)
    refine wps_pure (ent_prr (by rw [if_pos ho']) (ent_ex sl (ent_ex cl (ent_ex cs ?_))))
    have ht : R.ticked = { R with off := true } := by rw [Rk.ticked, if_pos ho']
    rw [ht]
    refine ent_pickC (by rfl) ?_
    have e1 : rlast { R with off := true } = rlast R := rfl
    have e2 : rcach { R with off := true } = rcach R := rfl
    have e3 : bads { R with off := true } = bads R := rfl
    rw [e1, e2, e3]
    repeat first | (with_reducible refine ent_pick ?_) | (refine ent_prq ?_)
    exact ⟨hq.hsl, hq.hcl, hq.hcs, hq.n17, hq.ns4, hq.hl1, hq.hl2, hq.hl3, hq.hl4, hq.ok, hq.cnt, ⟨hq.cok.pow, hq.cok.dks⟩⟩
  · have ho' : ¬ R.count = 0 := by simpa using ho
    have ht : R.ticked = { R with count := maxI (w64 (R.count - 1)) (-1), dk := fun j => (R.dk j).tick } := by rw [Rk.ticked, if_neg ho']
    have hpw := hq.cok.pow
    generalize hP : maxI (w64 (R.count - 1)) (-1) = P at *
    repeat first | (with_reducible refine wps_nil ?_) | (refine wps_ld _ (by rfl) ?_)
    refine wps_bindS (R := fun _ => seqp sl (rlast R) * seqp cl (rcach R) * own 1 l1 (sl.map vS) * own 1 l2 (cl.map vS) * own 1 l3 (bads R) * own 1 l4 (zv cs) * pc mb [.int .i64 R.n, .int .i64 R.ns, vS l1, vS l2, vS l3, vS l4, .int .i64 P, .bool R.off]) ?_ fun _ => ?_
    · refine wps_ite (fun hc => ?_) (fun hc => ?_)
      · have hc' : R.count > 0 := by simpa using hc
        repeat first | (with_reducible refine wps_nil ?_) | (refine wps_ld _ (by rfl) ?_) | (refine wps_st (by simp) ?_)
        refine wps_pure ?_
        have : P = w64 (R.count - 1) := by
          rw [← hP, maxI, w64_id (by omega) (by omega), if_neg (by omega)]
        refine ent_pickC (by rw [this]; rfl) ?_
        repeat first | (with_reducible exact ent_drop) | (with_reducible refine ent_pick ?_)
      · have hc' : ¬ R.count > 0 := by simpa using hc
        refine wps_pure ?_
        have : P = R.count := by
          have : R.count = -1 := by omega
          rw [← hP, maxI, this, w64_id (by omega) (by omega), if_pos (by omega)]
        rw [this]
        show Ent _ (_ * _)
        repeat first | (with_reducible exact ent_drop) | (with_reducible refine ent_pick ?_)
    · refine wps_loop (fun i => ex fun n : Nat => ex fun cs : List Int => pr (i = (n : Int) ∧ n ≤ R.n ∧ cs.length = R.n ∧ ∀ j, j < R.n → (R.part n j).failed = false → cs[j]? = some (R.part n j).count) * seqp sl (rlast R) * seqp cl (rcach R) * own 1 l1 (sl.map vS) * own 1 l2 (cl.map vS) * own 1 l3 (badsT R n) * own 1 l4 (zv cs) * pc mb [.int .i64 R.n, .int .i64 R.ns, vS l1, vS l2, vS l3, vS l4, .int .i64 P, .bool R.off]) (fun i => (R.n - i).toNat) ?_ fun i => ?_
      · refine ent_ex 0 (ent_ex cs ?_)
        have hb : badsT R 0 = bads R := by simp [badsT, bads, Rk.part]
        rw [hb]
        repeat first | (with_reducible refine ent_pick ?_) | (refine ent_prq ?_)
        refine ⟨rfl, by omega, hq.hcs, fun j hj hf => ?_⟩
        simp only [Rk.part, Nat.not_lt_zero, if_false] at hf ⊢
        exact hq.cnt j hj hf
      · refine wps_ex fun n => wps_ex fun cs => wps_prP fun ⟨hi, hn, hcl, hcnt⟩ => ?_
        repeat first | (with_reducible refine wps_nil ?_) | (refine wps_ld _ (by rfl) ?_)
        refine wps_ite (fun hc => ?_) (fun hc => ?_)
        · have hlt : n < R.n := by simp only [decide_eq_true_eq] at hc; omega
          have hn17 := hq.n17
          repeat first | (with_reducible refine wps_nil ?_) | (refine wps_ld _ (by rfl) ?_)
          have hpn : R.part n n = R.dk n := by simp [Rk.part]
          have hps : R.part (n + 1) n = (R.dk n).tick := by simp [Rk.part]
          have hpo : ∀ j, j ≠ n → R.part (n + 1) j = R.part n j := by
            intro j hj
            have : j < n + 1 ↔ j < n := by omega
            simp only [Rk.part, this]
          refine wps_rdS n (R.dk n).failed hi (by rw [badsT, List.getElem?_map, List.getElem?_range hlt, ← hpn]; rfl) ?_
          refine wps_ite (fun hf => ?_) (fun hf => ?_)
          · refine wps_pure ?_
            refine ent_prr (by rw [range_add1 hi (by omega)]; omega) (ent_ex (n + 1) (ent_ex cs ?_))
            have hb : badsT R n = badsT R (n + 1) := bads_same fun j hj => by
              by_cases hjn : j = n
              · subst hjn; rw [hps, hpn]; simp [hf]
              · rw [hpo j hjn]
            rw [hb]
            repeat first | (with_reducible refine ent_pick ?_) | (refine ent_prq ?_)
            refine ⟨range_add1 hi (by omega), by omega, hcl, fun j hj hff => ?_⟩
            by_cases hjn : j = n
            · subst hjn; rw [hps] at hff; simp [hf] at hff
            · rw [hpo j hjn] at hff ⊢; exact hcnt j hj hff
          · have hff : (R.dk n).failed = false := by simpa using hf
            have hcn : cs[n]? = some (R.dk n).count := by rw [← hpn]; exact hcnt n hlt (by rw [hpn]; exact hff)
            have hdc := hq.cok.dks n
            repeat first | (with_reducible refine wps_nil ?_) | (refine wps_ld _ (by rfl) ?_)
            refine wps_rdS n (R.dk n).count hi (by simp [zv, hcn]) ?_
            refine wps_bindS (R := fun _ => seqp sl (rlast R) * seqp cl (rcach R) * own 1 l1 (sl.map vS) * own 1 l2 (cl.map vS) * own 1 l3 (badsT R (n + 1)) * own 1 l4 (zv cs) * pc mb [.int .i64 R.n, .int .i64 R.ns, vS l1, vS l2, vS l3, vS l4, .int .i64 P, .bool R.off]) ?_ fun _ => ?_
            · refine wps_ite (fun h0 => ?_) (fun h0 => ?_)
              · have h0' : (R.dk n).count = 0 := by simpa using h0
                repeat first | (with_reducible refine wps_nil ?_) | (refine wps_ld _ (by rfl) ?_)
                refine wps_wrS n hi (by rw [hq.hl3]; exact hlt) (wps_pure ?_)
                refine ent_pick (ent_pick (ent_pickS ?_ ?_))
                · exact bads_set hlt (by rw [hps]; simp [hff, h0']) fun j hj hjn => by rw [hpo j hjn]
                · repeat first | (with_reducible exact ent_drop) | (with_reducible refine ent_pick ?_)
              · have h0' : ¬ (R.dk n).count = 0 := by simpa using h0
                have hb : badsT R n = badsT R (n + 1) := bads_same fun j hj => by
                  by_cases hjn : j = n
                  · subst hjn; rw [hps, hpn]; simp [hff, h0']
                  · rw [hpo j hjn]
                rw [hb]
                refine wps_pure ?_
                show Ent _ (_ * _)
                repeat first | (with_reducible exact ent_drop) | (with_reducible refine ent_pick ?_)
            · repeat first | (with_reducible refine wps_nil ?_) | (refine wps_ld _ (by rfl) ?_)
              refine wps_rdS n (R.dk n).count hi (by simp [zv, hcn]) ?_
              have hgoal : ∀ cs' : List Int, cs'.length = R.n → (∀ j, j < R.n → j ≠ n → cs'[j]? = cs[j]?) → ((R.dk n).count ≠ 0 → cs'[n]? = some (maxI (w64 ((R.dk n).count - 1)) (-1))) →
                  (∀ j, j < R.n → (R.part (n + 1) j).failed = false → cs'[j]? = some (R.part (n + 1) j).count) := by
                intro cs' h1 h2 h3 j hj hfj
                by_cases hjn : j = n
                · subst hjn
                  rw [hps] at hfj ⊢
                  refine h3 fun h0 => ?_
                  simp [hff, h0] at hfj
                · rw [h2 j hj hjn]
                  rw [hpo j hjn] at hfj ⊢
                  exact hcnt j hj hfj
              refine wps_ite (fun hp => ?_) (fun hp => ?_)
              · have hp' : (R.dk n).count > 0 := by simpa using hp
                repeat first | (with_reducible refine wps_nil ?_) | (refine wps_ld _ (by rfl) ?_)
                refine wps_rdS n (R.dk n).count hi (by simp [zv, hcn]) ?_
                refine wps_wrS n hi (by rw [hq.hl4]; exact hlt) (wps_pure ?_)
                refine ent_prr (by rw [range_add1 hi (by omega)]; omega) (ent_ex (n + 1) (ent_ex (cs.set n (w64 ((R.dk n).count - 1))) ?_))
                refine ent_pick (ent_pickS (by simp [zv, List.map_set]) ?_)
                repeat first | (with_reducible refine ent_pick ?_) | (refine ent_prq ?_)
                refine ⟨range_add1 hi (by omega), by omega, by simpa using hcl, hgoal _ (by simpa using hcl) (fun j _ hjn => by rw [List.getElem?_set_ne (fun e => hjn e.symm)]) fun _ => ?_⟩
                rw [List.getElem?_set_self (by omega)]
                rw [maxI, w64_id (by omega) (by omega), if_neg (by omega)]
              · have hp' : ¬ (R.dk n).count > 0 := by simpa using hp
                refine wps_pure ?_
                refine ent_prr (by rw [range_add1 hi (by omega)]; omega) (ent_ex (n + 1) (ent_ex cs ?_))
                repeat first | (with_reducible refine ent_pick ?_) | (refine ent_prq ?_)
                refine ⟨range_add1 hi (by omega), by omega, hcl, hgoal _ hcl (fun j _ _ => rfl) fun h0 => ?_⟩
                have : (R.dk n).count = -1 := by omega
                rw [hcn, maxI, this, w64_id (by omega) (by omega), if_pos (by omega)]
        · have hne : n = R.n := by simp only [decide_eq_true_eq] at hc; omega
          subst hne
          refine wps_mapR (wps_pure ?_)
          refine ent_prr (by rw [if_neg ho']) (ent_ex sl (ent_ex cl (ent_ex cs ?_)))
          have e1 : rlast R.ticked = rlast R := by rw [ht]; rfl
          have e2 : rcach R.ticked = rcach R := by rw [ht]; rfl
          have e3 : bads R.ticked = badsT R R.n := by
            rw [ht]
            exact bads_same fun j hj => by simp [Rk.part, hj]
          have e4 : R.ticked.n = R.n := by rw [ht]
          have e5 : R.ticked.ns = R.ns := by rw [ht]
          have e6 : R.ticked.count = P := by rw [ht]
          have e7 : R.ticked.off = R.off := by rw [ht]
          have hdt : ∀ j, R.ticked.dk j = (R.dk j).tick := fun j => by rw [ht]
          rw [e1, e2, e3, e4, e5, e6, e7]
          repeat first | (with_reducible refine ent_pick ?_) | (refine ent_prq ?_)
          have hq' : RQ R.ticked l1 l2 l3 l4 sl cl cs := by
            refine ⟨by rw [e4, e5]; exact hq.hsl, by rw [e4, e5]; exact hq.hcl, by rw [e4]; exact hcl, by rw [e4]; exact hq.n17, by rw [e5]; exact hq.ns4, by rw [e4, e5]; exact hq.hl1, by rw [e4, e5]; exact hq.hl2, by rw [e4]; exact hq.hl3, by rw [e4]; exact hq.hl4, fun j hj => ?_, fun j hj hf => ?_, hq.cok.ticked⟩
            · rw [e4] at hj; rw [hdt, e5]; exact hq.ok j hj
            · rw [e4] at hj
              rw [hdt] at hf ⊢
              have := hcnt j hj
              simp only [Rk.part, hj, if_true] at this
              exact this hf
          exact hq'
end Go.Proofs.Ytldmeimebebllaa
namespace Go.Proofs.Ytldmeimebebllaa
open Go.Mo
set_option linter.unusedVariables false
variable {g : Fr} {cv : CV}
theorem ref02_off {mb : Nat} {R : Rk} {l1 l2 l3 l4 : Slc} {α : Type} {F : HP} {K : Bool → M α} {Q : α → HP} (h : wps g (F * refQ mb R l1 l2 l3 l4) (K R.off) Q) : wps g (F * refQ mb R l1 l2 l3 l4) (bindM (ld Value.bool ⟨mb, 7, none⟩) K) Q := by
  refine wps_val (v := R.off) ?_ h
  show wps g _ (bindM (ld Value.bool ⟨mb, 7, none⟩) pureM) _
  unfold refQ refX4
  refine wps_exr fun sl => wps_exr fun cl => wps_exr fun cs => ?_
  repeat refine wps_ld _ (by rfl) ?_
  exact wps_pure (ent_prr rfl (Ent.starr (ent_ex sl (ent_ex cl (ent_ex cs (Ent.refl _))))))
def mix {α : Type} (m : Nat) (f f' : Nat → α) : Nat → α := fun i => if i < m then f i else f' i
theorem seqp_mix {A : HP} {sl : List Slc} {m : Nat} {f f' : Nat → List Int} {s : Slc} (h : Ent A (seqp sl (mix m f f'))) (hs : Ent A (byt s (f m))) : Ent A (seqp (sl.set m s) (mix (m + 1) f f')) :=
  Ent.trans (seqp_set (k := m) h hs) (seqp_ext fun i _ => by
    simp only [mix]
    by_cases hi : i = m
    · subst hi; simp
    · have : i < m + 1 ↔ i < m := by omega
      simp [hi, this])
theorem seqp_mixs {sl : List Slc} {m : Nat} {f f' : Nat → List Int} (h : f m = f' m) : Ent (seqp sl (mix m f f')) (seqp sl (mix (m + 1) f f')) := seqp_ext fun i _ => by
  simp only [mix]
  by_cases hi : i = m
  · subst hi; simp [h]
  · have : i < m + 1 ↔ i < m := by omega
    simp [this]
theorem flat_eq {k s j t ns : Nat} (hs : s < ns) (ht : t < ns) : k * ns + s = j * ns + t ↔ k = j ∧ s = t := by
  constructor
  · intro h
    have h1 := flat_div (k := k) hs
    have h2 := flat_div (k := j) ht
    rw [h] at h1
    exact ⟨h1.1.symm.trans h2.1, h1.2.symm.trans h2.2⟩
  · rintro ⟨rfl, rfl⟩; rfl
theorem put_rcach {R : Rk} {k s : Int} {b : List Int} {i : Nat} (hk : 0 ≤ k) (hs : 0 ≤ s ∧ s < R.ns) (i' : Nat) (hi : i = k.toNat * R.ns + s.toNat) : rcach (R.put k s b) i' = if i' = i then b else rcach R i' := by
  subst hi
  have h0 : 0 < R.ns := by omega
  have hd : i' = (i' / R.ns) * R.ns + i' % R.ns := by rw [Nat.mul_comm]; exact (Nat.div_add_mod i' R.ns).symm
  have hm : i' % R.ns < R.ns := Nat.mod_lt _ h0
  have hiff : i' = k.toNat * R.ns + s.toNat ↔ i' / R.ns = k.toNat ∧ i' % R.ns = s.toNat := by
    have := flat_eq (k := i' / R.ns) (s := i' % R.ns) (j := k.toNat) (t := s.toNat) hm (by omega)
    rw [← hd] at this
    exact this
  show (((R.put k s b).dk (i' / R.ns)).cached ((i' % R.ns : Nat) : Int)).getD [] = _
  simp only [Rk.put]
  by_cases h1 : i' / R.ns = k.toNat
  · rw [if_pos h1]
    by_cases h2 : i' % R.ns = s.toNat
    · rw [if_pos (hiff.2 ⟨h1, h2⟩)]
      simp only
      rw [if_pos (by omega)]; rfl
    · rw [if_neg (fun e => h2 (hiff.1 e).2)]
      simp only
      rw [if_neg (by omega)]; rfl
  · rw [if_neg h1, if_neg (fun e => h1 (hiff.1 e).1)]; rfl
theorem Rk.cok.put {R : Rk} (h : R.cok) (k s : Int) (b : List Int) : (R.put k s b).cok := ⟨h.pow, fun j => by
  simp only [Rk.put]; split
  · exact h.dks j
  · exact h.dks j⟩
theorem ticked_n (R : Rk) : R.ticked.n = R.n ∧ R.ticked.ns = R.ns := by
  unfold Rk.ticked; split <;> exact ⟨rfl, rfl⟩
theorem ref02_Write_spec {H : HP} (mb : Nat) (R : Rk) (l1 l2 l3 l4 : Slc) (k s : Int) (x : Slc) (b : List Int) (hx : Ent H (byt x b)) (hb : b.length ≤ 1099511627776) :
    wps g (H * refQ mb R l1 l2 l3 l4) (ref02_Rack_Write (ptr mb) k s x) (fun e => pr (e = R.gate k s b.length) * H * refQ mb (R.write k s b) l1 l2 l3 l4) := by
  unfold ref02_Rack_Write
  refine wps_fact (Ent.trans (ent_left _ _) (len_of hx)) fun hl => ?_
  have fin : ∀ e, e = R.gate k s b.length → e ≠ 0 → ∀ R', R' = R.gated k s b.length → Ent (H * refQ mb R' l1 l2 l3 l4) (pr (e = R.gate k s b.length) * H * refQ mb (R.write k s b) l1 l2 l3 l4) := by
    intro e he h0 R' hR'
    rw [Rk.write, if_neg (by omega), ← hR', star_assoc]
    exact ent_prr he (Ent.refl _)
  repeat with_reducible refine wps_nil ?_
  refine ref02_off ?_
  by_cases ho : R.off = true
  · rw [if_pos ho]
    exact wps_pure (fin _ (by simp [Rk.gate, ho]) (by omega) _ (by simp [Rk.gated, ho]))
  rw [if_neg ho]
  refine wps_val (val_frame (F := H) (fun _ => ref02_there_val mb R l1 l2 l3 l4 k s) rfl) ?_
  by_cases ht : thereB R k s = true
  rotate_left
  · have hn : (k < 0 ∨ k ≥ R.n ∨ s < 0 ∨ s ≥ R.ns) := Classical.byContradiction fun h => ht (there_or.2 h)
    rw [show thereB R k s = false by simpa using ht]
    refine wps_val (v := true) (wps_ite (fun _ => wps_pure (ent_val rfl)) (fun h => absurd rfl h)) ?_
    refine wps_ite (fun _ => ?_) (fun h => absurd rfl h)
    exact wps_pure (fin _ (by simp only [Rk.gate, if_neg ho, if_pos hn]) (by omega) _ (by rw [Rk.gated, if_pos (.inr (.inl hn))]))
  have hn := there_or.1 ht
  rw [ht]
  by_cases hs : ((b.length : Nat) : Int) ≠ 64
  · refine wps_val (v := true) (wps_ite (fun h => absurd h (by decide)) (fun _ => wps_pure (ent_val (by rw [← hl]; simpa using hs)))) ?_
    refine wps_ite (fun _ => ?_) (fun h => absurd rfl h)
    exact wps_pure (fin _ (by simp only [Rk.gate, if_neg ho, if_neg hn, if_pos hs]) (by omega) _ (by rw [Rk.gated, if_pos (.inr (.inr hs))]))
  have hs' : ((b.length : Nat) : Int) = 64 := by omega
  refine wps_val (v := false) (wps_ite (fun h => absurd h (by decide)) (fun _ => wps_pure (ent_val (by rw [← hl]; simpa using hs')))) ?_
  refine wps_ite (fun h => absurd h (by decide)) (fun _ => ?_)
  have hgd : R.gated k s b.length = R.ticked := by
    rw [Rk.gated, if_neg]
    rintro (h | h | h)
    · exact ho h
    · exact hn h
    · exact hs h
  refine wps_call (F := H) (fun _ => ref02_call_spec mb R l1 l2 l3 l4) (Ent.refl _) fun e => ?_
  rw [star_left_comm]
  refine wps_pr fun he => ?_
  by_cases hc : R.count = 0
  · rw [if_pos hc] at he
    subst he
    refine wps_ite (fun _ => ?_) (fun h => absurd rfl h)
    exact wps_pure (fin _ (by simp only [Rk.gate, if_neg ho, if_neg hn, if_neg hs, if_pos hc]) (by omega) _ hgd.symm)
  rw [if_neg hc] at he
  subst he
  refine wps_ite (fun h => absurd h (by decide)) (fun _ => ?_)
  obtain ⟨hk2, hs2⟩ := there_true ht
  have htn := ticked_n R
  have ht' : thereB R.ticked k s = true := by simp only [thereB, htn.1, htn.2]; exact ht
  unfold refQ
  refine wps_exr fun sl => wps_exr fun cl => wps_exr fun cs => ?_
  unfold refX4
  simp only [← star_assoc]
  refine wps_factP fun hq => ?_
  obtain ⟨i, hi, hie, hw, hlst, hcst, hk, hss⟩ := hq.at ht'
  repeat first | (with_reducible refine wps_nil ?_) | (refine wps_ld _ (by rfl) ?_)
  refine wps_rdS k.toNat (R.ticked.dk k.toNat).failed (by omega) (by rw [bads, List.getElem?_map, List.getElem?_range hk]; rfl) ?_
  refine wps_ite (fun hf => ?_) (fun hf => ?_)
  · have hg : R.gate k s b.length = 13 := by simp only [Rk.gate, if_neg ho, if_neg hn, if_neg hs, if_neg hc, if_pos hf]
    refine wps_pure ?_
    have := fin 13 hg.symm (by omega) _ hgd.symm
    unfold refQ refX4 at this
    refine Ent.trans ?_ this
    refine Ent.trans ?_ (Ent.starr (ent_ex sl (ent_ex cl (ent_ex cs (Ent.refl _)))))
    simp only [← star_assoc]
    exact Ent.refl _
  · have hg : R.gate k s b.length = 0 := by simp only [Rk.gate, if_neg ho, if_neg hn, if_neg hs, if_neg hc, if_neg hf]
    have hwr : R.write k s b = R.ticked.put k s b := by rw [Rk.write, if_pos hg, hgd]
    rw [hwr, hg]
    refine wps_regionH ?_
    repeat first | (with_reducible refine wps_nil ?_) | (refine wps_ldI _ (by rfl) ?_)
    rw [hw]
    refine wps_step1 (ref00_CopyBytes_spec (b := b) (Ent.trans (ent_drop (B := H)) hx) hb) fun s' => ?_
    refine wps_wrS i rfl (by rw [hq.hl2]; exact hi) (wps_pure ?_)
    refine Ent.trans ?_ (Ent.starr (ent_ex sl (ent_ex (cl.set i s') (ent_ex cs (Ent.refl _)))))
    have e1 : rlast (R.ticked.put k s b) = rlast R.ticked := by
      funext j
      show ((R.ticked.put k s b).dk _).lasts _ = _
      simp only [Rk.put]
      split <;> rfl
    have e3 : bads (R.ticked.put k s b) = bads R.ticked := by
      refine (bads_same fun j _ => ?_).symm
      simp only [Rk.put]
      split <;> rfl
    rw [e1, e3]
    simp only [← star_assoc]
    refine ent_pickC (by rfl) (ent_pick (ent_pick (ent_pickS (by rw [List.map_set]; rfl) (ent_pick ?_))))
    refine ent_swap (A := own 1 s' (bv b)) (B := byt s' b) (own_rsl _ _ _) ?_
    refine ent_join (A := seqp cl (rcach R.ticked)) (B := byt s' b) (C := seqp (cl.set i s') (rcach (R.ticked.put k s b))) (Ent.trans (seqp_set (k := i) (b := b) (ent_left _ _) (ent_right _ _)) (seqp_ext fun j _ => ?_)) ?_
    · exact (put_rcach (R := R.ticked) (i := i) hk2.1 (by rw [htn.2]; exact hs2) j hie).symm
    · repeat first | (with_reducible refine ent_pick ?_) | (refine ent_prx ?_ ?_; rotate_left) | (refine ent_prq ?_)
      all_goals first | trivial | skip
      refine ⟨hq.hsl, by rw [List.length_set]; exact hq.hcl, hq.hcs, hq.n17, hq.ns4, hq.hl1, hq.hl2, hq.hl3, hq.hl4, fun j hj => ?_, fun j hj hff => ?_, hq.cok.put _ _ _⟩
      · have hok := hq.ok j hj
        simp only [Rk.put]
        split
        · refine ⟨hok.1, fun q b' hb' => ?_⟩
          simp only at hb'
          by_cases hqs : q = s
          · rw [if_pos hqs] at hb'
            cases hb'
            rw [hqs]
            have := hs2.2
            exact ⟨by omega, hs2.1, by omega⟩
          · rw [if_neg hqs] at hb'
            exact hok.2 q b' hb'
        · exact hok
      · have := hq.cnt j hj
        simp only [Rk.put] at hff ⊢
        by_cases hjk : j = k.toNat
        · rw [if_pos hjk] at hff ⊢
          exact this hff
        · rw [if_neg hjk] at hff ⊢
          exact this hff
end Go.Proofs.Ytldmeimebebllaa
namespace Go.Proofs.Ytldmeimebebllaa
open Go.Mo
set_option linter.unusedVariables false
variable {g : Fr} {cv : CV}
theorem RQ.setD {R : Rk} {l1 l2 l3 l4 : Slc} {sl cl sl' cl' : List Slc} {cs : List Int} (h : RQ R l1 l2 l3 l4 sl cl cs) {k : Nat} {D : Dk} (hok : k < R.n → D.ok R.ns) (hf : D.failed = (R.dk k).failed) (hc : D.count = (R.dk k).count) (h1 : sl'.length = R.n * R.ns) (h2 : cl'.length = R.n * R.ns) : RQ (R.setD k D) l1 l2 l3 l4 sl' cl' cs := by
  refine ⟨h1, h2, h.hcs, h.n17, h.ns4, h.hl1, h.hl2, h.hl3, h.hl4, fun j hj => ?_, fun j hj hff => ?_, h.cok.setD (by rw [hc]; exact h.cok.dks k)⟩
  · simp only [Rk.setD]
    split
    · rename_i e; subst e; exact hok hj
    · exact h.ok j hj
  · simp only [Rk.setD] at hff ⊢
    by_cases e : j = k
    · subst e
      rw [if_pos rfl] at hff ⊢
      rw [hc]; exact h.cnt j hj (by rw [← hf]; exact hff)
    · rw [if_neg e] at hff ⊢
      exact h.cnt j hj hff
end Go.Proofs.Ytldmeimebebllaa
namespace Go.Proofs.Ytldmeimebebllaa
open Go.Mo
set_option linter.unusedVariables false
variable {g : Fr} {cv : CV}
theorem flat_split {i ns : Nat} : i = i / ns * ns + i % ns := by rw [Nat.mul_comm]; exact (Nat.div_add_mod i ns).symm
theorem restore_rlast (R : Rk) (ks : List Int) (i : Nat) : rlast (R.restore ks) i = (match (R.dk (i / R.ns)).cached ((i % R.ns : Nat) : Int) with | some b => if (keepB ks (rank R i) && !(R.dk (i / R.ns)).failed) = true then b else rlast R i | none => rlast R i) := by
  show (Dk.restored R ks (i / R.ns)).lasts (i % R.ns) = _
  simp only [Dk.restored, Dk.clean, Dk.flushed]
  cases (R.dk (i / R.ns)).cached ((i % R.ns : Nat) : Int) with
  | none => rfl
  | some b =>
    simp only [Int.toNat_natCast]
    simp only [(flat_split (i := i) (ns := R.ns)).symm]; rfl
theorem restore_rcach (R : Rk) (ks : List Int) (i : Nat) : rcach (R.restore ks) i = [] := rfl
theorem rank_next (R : Rk) (i : Nat) : rank R (i + 1) = rank R i + if isC R i = true then 1 else 0 := by
  unfold rank
  rw [List.range_succ, List.filter_append, List.length_append, List.filter_cons]
  split <;> simp
theorem ref02_Restore_spec {H : HP} (mb : Nat) (R : Rk) (l1 l2 l3 l4 : Slc) (x : Slc) (ks : List Int) (hx : Ent H (intsP x ks)) :
    wps g (H * refQ mb R l1 l2 l3 l4) (ref02_Rack_Restore (ptr mb) x) (fun _ => H * refQ mb (R.restore ks) l1 l2 l3 l4) := by
  unfold ref02_Rack_Restore
  refine wps_fact (Ent.trans (ent_left _ _) (ilen_of hx)) fun hl => ?_
  unfold refQ
  refine wps_exr fun sl => wps_exr fun cl => wps_exr fun cs => ?_
  unfold refX4
  simp only [← star_assoc]
  refine wps_factP fun hq => ?_
  have hNS : R.n * R.ns ≤ 17 * 4096 := Nat.mul_le_mul hq.n17 hq.ns4
  repeat first | (with_reducible refine wps_nil ?_) | (refine wps_st (by simp) ?_)
  refine wps_loop (fun s => ex fun m : Nat => ex fun sl : List Slc => ex fun cl : List Slc => pr (s.2 = (m : Int) ∧ m ≤ R.n * R.ns ∧ s.1 = ((rank R m : Nat) : Int) ∧ sl.length = R.n * R.ns ∧ cl.length = R.n * R.ns) * H * seqp sl (mix m (rlast (R.restore ks)) (rlast R)) * seqp cl (mix m (rcach (R.restore ks)) (rcach R)) * own 1 l1 (sl.map vS) * own 1 l2 (cl.map vS) * own 1 l3 (bads R) * own 1 l4 (zv cs) * pc mb [.int .i64 R.n, .int .i64 R.ns, vS l1, vS l2, vS l3, vS l4, .int .i64 (-1), .bool false]) (fun s => ((R.n * R.ns : Nat) - s.2).toNat) ?_ fun s => ?_
  · refine ent_ex 0 (ent_ex sl (ent_ex cl ?_))
    have e1 : mix 0 (rlast (R.restore ks)) (rlast R) = rlast R := by funext i; simp [mix]
    have e2 : mix 0 (rcach (R.restore ks)) (rcach R) = rcach R := by funext i; simp [mix]
    rw [e1, e2]
    refine ent_pickC (by rfl) ?_
    repeat first | (with_reducible refine ent_pick ?_) | (refine ent_prq ?_)
    all_goals first | exact ⟨rfl, by omega, by simp [rank], hq.hsl, hq.hcl⟩ | trivial
  · refine wps_ex fun m => wps_ex fun sl => wps_ex fun cl => wps_prP fun ⟨hm, hmn, hs1, hsl, hcl⟩ => ?_
    repeat first | (with_reducible refine wps_nil ?_) | (refine wps_ld _ (by rfl) ?_)
    refine wps_ite (fun hc => ?_) (fun hc => ?_)
    · have hlt : m < R.n * R.ns := by
        have := hq.hl2
        simp only [decide_eq_true_eq] at hc; omega
      have hns0 : 0 < R.ns := Nat.pos_of_ne_zero fun h0 => by rw [h0] at hlt; omega
      have hkn : m / R.ns < R.n := (Nat.div_lt_iff_lt_mul hns0).2 hlt
      have htn : m % R.ns < R.ns := Nat.mod_lt _ hns0
      have hrk := rank_le R m
      have hok := hq.ok _ hkn
      repeat first | (with_reducible refine wps_nil ?_) | (refine wps_ld _ (by rfl) ?_)
      have hic : m < cl.length := by omega
      refine wps_rdS m cl[m] hm (by rw [List.getElem?_map, List.getElem?_eq_getElem hic]; rfl) ?_
      have hcb : Ent (seqp cl (mix m (rcach (R.restore ks)) (rcach R))) (byt cl[m] (rcach R m)) := Ent.trans (seqp_get (List.getElem?_eq_getElem hic)) (Ent.of_eq (by simp [mix]))
      refine wps_fact (len_of (Ent.trans (ent_drop (B := seqp cl (mix m (rcach (R.restore ks)) (rcach R)))) hcb)) fun hclen => ?_
      have hDl := restore_rlast R ks m
      have hnext := rank_next R m
      have hrc : rcach R m = ((R.dk (m / R.ns)).cached ((m % R.ns : Nat) : Int)).getD [] := rfl
      refine wps_ite (fun hz => ?_) (fun hz => ?_)
      · have hz' : cl[m].len = 0 := by
          have : ((cl[m].len : Nat) : Int) = 0 := by simpa using hz
          omega
        have hnone : (R.dk (m / R.ns)).cached ((m % R.ns : Nat) : Int) = none := by
          cases hcc : (R.dk (m / R.ns)).cached ((m % R.ns : Nat) : Int) with
          | none => rfl
          | some b =>
            rw [hrc, hcc] at hclen
            have := (hok.2 _ b hcc).1
            simp at hclen; omega
        have hnc : isC R m = false := by rw [isC, hnone]; rfl
        rw [hnc] at hnext
        refine wps_pure ?_
        refine ent_prr (by (try dsimp only); rw [range_add1 hm (by omega)]; omega) (ent_ex (m + 1) (ent_ex sl (ent_ex cl ?_)))
        refine ent_swap (A := seqp sl (mix m (rlast (R.restore ks)) (rlast R))) (seqp_mixs (by rw [hDl, hnone])) ?_
        refine ent_swap (A := seqp cl (mix m (rcach (R.restore ks)) (rcach R))) (seqp_mixs (by rw [restore_rcach, hrc, hnone]; rfl)) ?_
        repeat first | (with_reducible refine ent_pick ?_) | (refine ent_prq ?_)
        all_goals first | exact ⟨range_add1 hm (by omega), by omega, by rw [hnext]; exact hs1, hsl, hcl⟩ | trivial
      · have hz' : 0 < cl[m].len := by
          have : ¬ ((cl[m].len : Nat) : Int) = 0 := by simpa using hz
          omega
        obtain ⟨b, hb⟩ : ∃ b, (R.dk (m / R.ns)).cached ((m % R.ns : Nat) : Int) = some b := by
          cases hcc : (R.dk (m / R.ns)).cached ((m % R.ns : Nat) : Int) with
          | some b => exact ⟨b, rfl⟩
          | none =>
            rw [hrc, hcc] at hclen
            simp at hclen; omega
        have hnc : isC R m = true := by rw [isC, hb]; rfl
        rw [hnc] at hnext
        have hrcb : rcach R m = b := by rw [hrc, hb]; rfl
        rw [hb] at hDl
        simp only at hDl
        generalize hN : rank R m = N at *
        refine wps_bindV (u := keepB ks N && !(R.dk (m / R.ns)).failed) ?_ ?_
        · refine wps_regionH ?_
          refine wps_ite (fun hx0 => ?_) (fun hx0 => ?_)
          · have hx0' : 0 < x.len := by simp only [decide_eq_true_eq] at hx0; omega
            refine wps_assert (by omega) ?_
            have hlt2 : N % ks.length < ks.length := Nat.mod_lt _ (by omega)
            have hmod : Int.tmod s.1 (x.len : Int) = ((N % ks.length : Nat) : Int) := by
              rw [hs1, ← hl]; rfl
            refine wps_rdI (N % ks.length) (ks.getD (N % ks.length) 0) (Ent.trans (ent_drop (B := H)) hx) (Ent.refl _) hmod ?_ ?_
            · simp [zv, List.getD_eq_getElem?_getD, List.getElem?_eq_getElem hlt2]
            have hkb : keepB ks N = (bAnd .i64 (ks.getD (N % ks.length) 0) 1 == 1) := by rw [keepB, if_neg (by omega)]
            refine wps_ite (fun hk => ?_) (fun hk => wps_pure (ent_val ?_))
            · repeat first | (with_reducible refine wps_nil ?_) | (refine wps_ldI _ (by rfl) ?_)
              refine wps_assert (by omega) ?_
              have hdiv : w64 (Int.tdiv s.2 (R.ns : Int)) = ((m / R.ns : Nat) : Int) := by
                have h1 : ∀ q : Nat, q ≤ m → w64 (q : Int) = (q : Int) := fun q h => w64_id (by omega) (by omega)
                rw [hm, show Int.tdiv (m : Int) (R.ns : Int) = ((m / R.ns : Nat) : Int) from rfl]
                exact h1 _ (Nat.div_le_self _ _)
              refine wps_rdI (m / R.ns) (R.dk (m / R.ns)).failed (Ent.trans (ent_pick1 (A := own 1 l3 (bads R))) (own_rsl _ _ _)) (Ent.refl _) hdiv (by rw [bads, List.getElem?_map, List.getElem?_range hkn]; rfl) ?_
              exact wps_pure (ent_val (by rw [hkb, hk]; simp))
            · rw [hkb]; simp only [Bool.not_eq_true] at hk; rw [hk]; rfl
          · have hx0' : x.len = 0 := by simp only [decide_eq_true_eq] at hx0; omega
            refine wps_pure (ent_val ?_)
            rw [keepB, if_pos (by omega)]; rfl
        · refine wps_bindS (R := fun _ => ex fun sl' : List Slc => pr (sl'.length = R.n * R.ns) * H * seqp sl' (mix (m + 1) (rlast (R.restore ks)) (rlast R)) * seqp cl (mix m (rcach (R.restore ks)) (rcach R)) * own 1 l1 (sl'.map vS) * own 1 l2 (cl.map vS) * own 1 l3 (bads R) * own 1 l4 (zv cs) * pc mb [.int .i64 R.n, .int .i64 R.ns, vS l1, vS l2, vS l3, vS l4, .int .i64 (-1), .bool false]) ?_ fun _ => ?_
          · refine wps_ite (fun hk => ?_) (fun hk => ?_)
            · refine wps_regionH ?_
              repeat first | (with_reducible refine wps_nil ?_) | (refine wps_ldI _ (by rfl) ?_)
              refine wps_rdI m cl[m] (Ent.trans (ent_pick1 (A := own 1 l2 (cl.map vS))) (own_rsl _ _ _)) (Ent.refl _) hm (by rw [List.getElem?_map, List.getElem?_eq_getElem hic]; rfl) ?_
              refine wps_wrS m hm (by rw [hq.hl1]; exact hlt) (wps_pure ?_)
              rw [if_pos hk] at hDl
              refine ent_ex (sl.set m cl[m]) ?_
              refine ent_pick (ent_pick (ent_pick (ent_pick (ent_pickS (by rw [List.map_set]; rfl) ?_))))
              refine Ent.trans (B := H * (seqp sl (mix m (rlast (R.restore ks)) (rlast R)) * seqp cl (mix m (rcach (R.restore ks)) (rcach R)))) (Ent.of_eq (by simp only [← star_assoc, emp_star])) ?_
              refine Ent.trans (Ent.starr (ent_and (B := seqp (sl.set m cl[m]) (mix (m + 1) (rlast (R.restore ks)) (rlast R))) (C := seqp cl (mix m (rcach (R.restore ks)) (rcach R))) (seqp_mix (ent_left _ _) (Ent.trans (ent_right _ _) (Ent.trans hcb (Ent.of_eq (by rw [hDl, hrcb]))))) (ent_right _ _))) ?_
              simp only [← star_assoc]
              repeat first | (with_reducible refine ent_pick ?_) | (refine ent_prq ?_)
              all_goals first | simpa using hsl | trivial
            · rw [if_neg hk] at hDl
              refine wps_pure (ent_ex sl ?_)
              refine ent_swap (A := seqp sl (mix m (rlast (R.restore ks)) (rlast R))) (seqp_mixs hDl) ?_
              repeat first | (with_reducible refine ent_pick ?_) | (refine ent_prq ?_)
              all_goals first | exact hsl | trivial
          · refine wps_ex fun sl' => wps_prP fun hsl' => ?_
            repeat first | (with_reducible refine wps_nil ?_) | (refine wps_ld _ (by rfl) ?_)
            refine wps_wrS m hm (by rw [hq.hl2]; exact hlt) (wps_pure ?_)
            refine ent_prr (by (try dsimp only); rw [range_add1 hm (by omega)]; omega) (ent_ex (m + 1) (ent_ex sl' (ent_ex (cl.set m nilS) ?_)))
            refine ent_pick (ent_pick (ent_pick (ent_pickS (by rw [List.map_set]; rfl) (ent_pick ?_))))
            refine ent_swap (A := seqp cl (mix m (rcach (R.restore ks)) (rcach R))) (B := seqp (cl.set m nilS) (mix (m + 1) (rcach (R.restore ks)) (rcach R))) (seqp_mix (Ent.refl _) (Ent.trans (ent_emp _) (by rw [restore_rcach]; exact rsl_nil 1))) ?_
            repeat first | (with_reducible refine ent_pick ?_) | (refine ent_prq ?_)
            all_goals first | exact ⟨range_add1 hm (by omega), by omega, by rw [hnext]; exact range_add1 hs1 (by omega), hsl', by simpa using hcl⟩ | trivial
    · have hme : m = R.n * R.ns := by
        have := hq.hl2
        simp only [decide_eq_true_eq] at hc; omega
      refine wps_mapR (wps_pure ?_)
      refine ent_exr sl ?_
      refine ent_exr cl ?_
      refine ent_exr cs ?_
      simp only [← star_assoc]
      have e1 : Ent (seqp sl (mix m (rlast (R.restore ks)) (rlast R))) (seqp sl (rlast (R.restore ks))) := seqp_ext fun i hi => by
        simp only [mix]; rw [if_pos (by omega)]
      have e2 : Ent (seqp cl (mix m (rcach (R.restore ks)) (rcach R))) (seqp cl (rcach (R.restore ks))) := seqp_ext fun i hi => by
        simp only [mix]; rw [if_pos (by omega)]
      refine ent_swap (A := seqp sl (mix m (rlast (R.restore ks)) (rlast R))) e1 ?_
      refine ent_swap (A := seqp cl (mix m (rcach (R.restore ks)) (rcach R))) e2 ?_
      have e3 : bads (R.restore ks) = bads R := rfl
      rw [e3]
      refine ent_pickC (by rfl) ?_
      repeat first | (with_reducible exact ent_drop) | (with_reducible refine ent_pick ?_) | (refine ent_prx ?_ ?_; rotate_left)
      all_goals first | trivial | skip
      exact ⟨hsl, hcl, hq.hcs, hq.n17, hq.ns4, hq.hl1, hq.hl2, hq.hl3, hq.hl4, fun j hj => ⟨(Dk.ok_flushed (hq.ok j hj) fun k => keepB ks (rank R (j * R.ns + k.toNat)) && !(R.dk j).failed).1, fun q b h => by cases h⟩, hq.cnt, ⟨by show -1 ≤ (-1 : Int) ∧ (-1 : Int) < _; omega, hq.cok.dks⟩⟩
end Go.Proofs.Ytldmeimebebllaa

namespace Go.Proofs.Ytldmeimebebllaa
open Go.Mo
set_option linter.unusedVariables false
variable {g : Fr} {cv : CV}
def one (v : Int) : List Int := v :: List.replicate 63 0
theorem one_len (v : Int) : (one v).length = 64 := by simp [one]
end Go.Proofs.Ytldmeimebebllaa
namespace Go.Proofs.Ytldmeimebebllaa
open Go.Mo
set_option linter.unusedVariables false
variable {g : Fr} {cv : CV}
structure Wr (R : Rk) (sure : Nat → Int) (last : Nat → Option Int) : Prop where
  calm : Calm R
  n : R.n = 2
  ns : R.ns = 4
  lasts : ∀ j k : Nat, j < 2 → k < 4 → (R.dk j).lasts k = one (sure (j * 4 + k))
  cached : ∀ j k : Nat, j < 2 → k < 4 → (R.dk j).cached (k : Int) = (last (j * 4 + k)).map one
theorem Wr.new : Wr (Rk.new 2 4) (fun _ => 0) (fun _ => none) := ⟨Calm.new 2 4, rfl, rfl, fun _ _ _ _ => rfl, fun _ _ _ _ => rfl⟩
theorem Wr.put {R : Rk} {sure : Nat → Int} {last : Nat → Option Int} (h : Wr R sure last) {i : Nat} (hi : i < 8) (v : Int) :
    R.gate ((i / 4 : Nat) : Int) ((i % 4 : Nat) : Int) (one v).length = 0 ∧ Wr (R.write ((i / 4 : Nat) : Int) ((i % 4 : Nat) : Int) (one v)) sure (fun q => if q = i then some v else last q) := by
  have hw := h.calm.write (k := ((i / 4 : Nat) : Int)) (s := ((i % 4 : Nat) : Int)) (b := one v) (by rw [h.n]; omega) (by rw [h.ns]; omega) (one_len v)
  refine ⟨hw.1, ?_⟩
  rw [hw.2]
  refine ⟨h.calm.put _ _ _, h.n, h.ns, fun j k hj hk => ?_, fun j k hj hk => ?_⟩
  · simp only [Rk.put]
    split
    · exact h.lasts j k hj hk
    · exact h.lasts j k hj hk
  · simp only [Rk.put]
    by_cases hji : j = i / 4
    · rw [if_pos (by omega)]
      by_cases hki : k = i % 4
      · simp only [show (k : Int) = ((i % 4 : Nat) : Int) by omega, if_true]
        rw [if_pos (by omega)]; rfl
      · simp only [show ¬ (k : Int) = ((i % 4 : Nat) : Int) by omega, if_false]
        rw [if_neg (by omega)]
        exact h.cached j k hj hk
    · rw [if_neg (by omega), if_neg (by omega)]
      exact h.cached j k hj hk
theorem Wr.restore {R : Rk} {sure : Nat → Int} {last : Nat → Option Int} (h : Wr R sure last) (ks : List Int) {i : Nat} (hi : i < 8) :
    (R.restore ks).lst ((i / 4 : Nat) : Int) ((i % 4 : Nat) : Int) = one (if keepB ks (rank R i) = true then (last i).getD (sure i) else sure i) ∧ (R.restore ks).lErr ((i / 4 : Nat) : Int) ((i % 4 : Nat) : Int) = 0 := by
  have he : (R.restore ks).lErr ((i / 4 : Nat) : Int) ((i % 4 : Nat) : Int) = 0 := by
    rw [Rk.lErr, if_neg]
    show ¬ (_ ∨ _ ≥ (R.n : Int) ∨ _ ∨ _ ≥ (R.ns : Int))
    rw [h.n, h.ns]; omega
  refine ⟨?_, he⟩
  rw [Rk.lst, if_pos he]
  show (Dk.restored R ks ((i / 4 : Nat) : Int).toNat).lasts ((i % 4 : Nat) : Int).toNat = _
  rw [show ((i / 4 : Nat) : Int).toNat = i / 4 by omega, show ((i % 4 : Nat) : Int).toNat = i % 4 by omega]
  simp only [Dk.restored, Dk.clean, Dk.flushed, h.cached (i / 4) (i % 4) (by omega) (by omega), h.lasts (i / 4) (i % 4) (by omega) (by omega), h.calm.failed, h.ns]
  have h1 : i / 4 * 4 + i % 4 = i := by omega
  have h2 : ((i % 4 : Nat) : Int).toNat = i % 4 := by omega
  rw [h1, h2, h1]
  cases last i with
  | none => simp
  | some v => cases keepB ks (rank R i) <;> simp
end Go.Proofs.Ytldmeimebebllaa
namespace Go.Proofs.Ytldmeimebebllaa
open Go.Mo
set_option linter.unusedVariables false
variable {g : Fr} {cv : CV}
theorem Calm.setD {R : Rk} (h : Calm R) {k : Nat} {D : Dk} (hf : D.failed = false) (hc : D.count = -1) : Calm (R.setD k D) := by
  refine ⟨h.off, h.count, fun j => ?_, fun j => ?_⟩
  · simp only [Rk.setD]; split
    · exact hf
    · exact h.failed j
  · simp only [Rk.setD]; split
    · exact hc
    · exact h.counts j
theorem Calm.flush {R : Rk} (h : Calm R) {k : Int} (hk : 0 ≤ k ∧ k < R.n) (hs : 0 < R.ns) : R.gate k 0 64 = 0 ∧ R.flush k = R.setD k.toNat (((R.dk k.toNat).flushed fun _ => true).clean) ∧ Calm (R.flush k) := by
  have hg := h.gate hk (s := 0) (by omega)
  obtain ⟨_, _, _, _, hgd⟩ := gate_ok hg
  have he : R.flush k = R.setD k.toNat (((R.dk k.toNat).flushed fun _ => true).clean) := by rw [Rk.flush, if_pos hg, hgd, h.tick]
  refine ⟨hg, he, ?_⟩
  rw [he]
  exact h.setD (h.failed _) (h.counts _)
theorem Wr.flush {R : Rk} {sure : Nat → Int} {last : Nat → Option Int} (h : Wr R sure last) :
    R.gate 0 0 64 = 0 ∧ (R.flush 0).gate 1 0 64 = 0 ∧ Wr ((R.flush 0).flush 1) (fun q => (last q).getD (sure q)) (fun _ => none) := by
  have h1 := h.calm.flush (k := 0) (by rw [h.n]; omega) (by rw [h.ns]; omega)
  have hn1 := flush_n (R := R) 0
  have h2 := h1.2.2.flush (k := 1) (by rw [hn1.1, h.n]; omega) (by rw [hn1.2, h.ns]; omega)
  have hn2 := flush_n (R := R.flush 0) 1
  refine ⟨h1.1, h2.1, h2.2.2, by rw [hn2.1, hn1.1, h.n], by rw [hn2.2, hn1.2, h.ns], fun j k hj hk => ?_, fun j k hj hk => ?_⟩
  · rw [h2.2.1, h1.2.1]
    have hjj : j = 0 ∨ j = 1 := by omega
    rcases hjj with e | e <;> subst e
    · have hc := h.cached 0 k (by omega) hk
      have hl := h.lasts 0 k (by omega) hk
      simp only [Rk.setD, Dk.flushed, Dk.clean, Int.toNat_zero, show Int.toNat 1 = 1 from rfl, show ¬ (0 : Nat) = 1 by omega, if_false, if_true, hc, hl]
      cases last (0 * 4 + k) <;> rfl
    · have hc := h.cached 1 k (by omega) hk
      have hl := h.lasts 1 k (by omega) hk
      simp only [Rk.setD, Dk.flushed, Dk.clean, Int.toNat_zero, show Int.toNat 1 = 1 from rfl, show ¬ (1 : Nat) = 0 by omega, if_false, if_true, hc, hl]
      cases last (1 * 4 + k) <;> rfl
  · rw [h2.2.1, h1.2.1]
    have hjj : j = 0 ∨ j = 1 := by omega
    rcases hjj with e | e <;> subst e <;> simp [Rk.setD, Dk.clean]
theorem Wr.reads {R : Rk} {sure : Nat → Int} {last : Nat → Option Int} (h : Wr R sure last) (ks : List Int) {i : Nat} (hi : i < 8) :
    (R.restore ks).rd ((i / 4 : Nat) : Int) ((i % 4 : Nat) : Int) = one (if keepB ks (rank R i) = true then (last i).getD (sure i) else sure i) ∧ (R.restore ks).rdErr ((i / 4 : Nat) : Int) ((i % 4 : Nat) : Int) = 0 := by
  have h1 := h.restore ks hi
  have hr : ¬ (((i / 4 : Nat) : Int) < 0 ∨ ((i / 4 : Nat) : Int) ≥ ((R.restore ks).n : Int) ∨ ((i % 4 : Nat) : Int) < 0 ∨ ((i % 4 : Nat) : Int) ≥ ((R.restore ks).ns : Int)) := by
    show ¬ (_ ∨ _ ≥ (R.n : Int) ∨ _ ∨ _ ≥ (R.ns : Int))
    rw [h.n, h.ns]; omega
  have he : (R.restore ks).rdErr ((i / 4 : Nat) : Int) ((i % 4 : Nat) : Int) = 0 := by
    rw [Rk.rdErr, if_neg (by simp [Rk.restore]), if_neg hr, if_neg]
    show ¬ (R.dk _).failed = true
    simp [h.calm.failed]
  refine ⟨?_, he⟩
  rw [← h1.1, Rk.rd, if_pos he, Rk.lst, if_pos h1.2]
  rfl
end Go.Proofs.Ytldmeimebebllaa
namespace Go.Proofs.Ytldmeimebebllaa
open Go.Mo
set_option linter.unusedVariables false
variable {g : Fr} {cv : CV}
structure Pw (R : Rk) (N : Int) (i : Nat) : Prop where
  n : R.n = 1
  ns : R.ns = 2
  failed : (R.dk 0).failed = false
  count : (R.dk 0).count = -1
  on : (i : Int) ≤ N → R.off = false ∧ R.count = N - i
  off : N < i → R.off = true
theorem Pw.new {N : Int} (h : 0 ≤ N) : Pw ((Rk.new 1 2).arm N) N 0 := ⟨rfl, rfl, rfl, rfl, fun _ => ⟨rfl, by show maxI N (-1) = _; rw [maxI, if_neg (by omega)]; simp⟩, fun h' => by omega⟩
theorem Pw.step {R : Rk} {N : Int} {i : Nat} (h : Pw R N i) (hi : i < 1000) (hN : N < 9223372036854775808) {s : Int} (hs : 0 ≤ s ∧ s < 2) :
    R.gate 0 s 64 = (if (i : Int) < N then 0 else 12) ∧ Pw (R.gated 0 s 64) N (i + 1) := by
  have hr : ¬ ((0 : Int) < 0 ∨ (0 : Int) ≥ R.n ∨ s < 0 ∨ s ≥ R.ns) := by rw [h.n, h.ns]; omega
  by_cases h1 : (i : Int) ≤ N
  · obtain ⟨ho, hc⟩ := h.on h1
    have hgd : R.gated 0 s 64 = R.ticked := gated_in ho (by rw [h.n]; omega) (by rw [h.ns]; omega)
    have ho' : ¬ R.off = true := by simp [ho]
    rw [hgd]
    by_cases h2 : (i : Int) = N
    · have hc0 : R.count = 0 := by omega
      refine ⟨?_, ?_⟩
      · rw [Rk.gate, if_neg ho', if_neg hr, if_neg (by omega), if_pos hc0, if_neg (by omega)]
      · rw [Rk.ticked, if_pos hc0]
        exact ⟨h.n, h.ns, h.failed, h.count, fun h' => by omega, fun _ => rfl⟩
    · have hc0 : ¬ R.count = 0 := by omega
      have ht : R.ticked = { R with count := maxI (w64 (R.count - 1)) (-1), dk := fun j => (R.dk j).tick } := by rw [Rk.ticked, if_neg hc0]
      have hd : (R.dk 0).tick = R.dk 0 := tickD h.count
      refine ⟨?_, ?_⟩
      · rw [Rk.gate, if_neg ho', if_neg hr, if_neg (by omega), if_neg hc0, ht]
        show (if ((R.dk 0).tick).failed = true then (13 : Int) else 0) = _
        rw [hd, h.failed, if_neg (by simp), if_pos (by omega)]
      · rw [ht]
        refine ⟨h.n, h.ns, ?_, ?_, fun h' => ⟨ho, ?_⟩, fun h' => by omega⟩
        · show ((R.dk 0).tick).failed = false
          rw [hd, h.failed]
        · show ((R.dk 0).tick).count = -1
          rw [hd, h.count]
        · show maxI (w64 (R.count - 1)) (-1) = _
          rw [hc, w64_id (by omega) (by omega), maxI, if_neg (by omega)]; omega
  · have ho := h.off (by omega)
    refine ⟨?_, ?_⟩
    · rw [Rk.gate, if_pos ho, if_neg (by omega)]
    · rw [Rk.gated, if_pos (.inl ho)]
      exact ⟨h.n, h.ns, h.failed, h.count, fun h' => by omega, fun _ => ho⟩
theorem Pw.write {R : Rk} {N : Int} {i : Nat} (h : Pw R N i) (hi : i < 1000) (hN : N < 9223372036854775808) {s : Int} (hs : 0 ≤ s ∧ s < 2) {b : List Int} (hb : b.length = 64) :
    R.gate 0 s b.length = (if (i : Int) < N then 0 else 12) ∧ Pw (R.write 0 s b) N (i + 1) := by
  have hp := h.step hi hN hs
  rw [hb]
  refine ⟨hp.1, ?_⟩
  rw [Rk.write, hb]
  split
  · obtain ⟨a1, a2, a3, a4, a5, a6⟩ := hp.2
    refine ⟨a1, a2, ?_, ?_, a5, a6⟩
    · exact a3
    · exact a4
  · exact hp.2
theorem Pw.flush {R : Rk} {N : Int} {i : Nat} (h : Pw R N i) (hi : i < 1000) (hN : N < 9223372036854775808) :
    R.gate 0 0 64 = (if (i : Int) < N then 0 else 12) ∧ Pw (R.flush 0) N (i + 1) := by
  have hp := h.step hi hN (s := 0) (by omega)
  refine ⟨hp.1, ?_⟩
  rw [Rk.flush]
  split
  · obtain ⟨a1, a2, a3, a4, a5, a6⟩ := hp.2
    exact ⟨a1, a2, a3, a4, a5, a6⟩
  · exact hp.2
end Go.Proofs.Ytldmeimebebllaa
namespace Go.Proofs.Ytldmeimebebllaa
open Go.Mo
set_option linter.unusedVariables false
variable {g : Fr} {cv : CV}
theorem slotV_in (m : G3) (i : Nat) (hi : i < 3) : (slotV (3, 3, 12) m i).2 = true ∧ (slotV (3, 3, 12) m i).1 = (if m.2.2 ≠ 0 ∧ m.2.1 = i then 3 else (i : Int)) := by
  have h : ¬ ((i : Int) < 0 ∨ (i : Int) ≥ 3) := by omega
  simp only [slotV]
  rw [if_neg h]
  split <;> exact ⟨rfl, rfl⟩
theorem slot_range (m : G3) (i : Nat) (hi : i < 3) : 0 ≤ (slotV (3, 3, 12) m i).1 ∧ (slotV (3, 3, 12) m i).1 < 4 := by
  rw [(slotV_in m i hi).2]
  split <;> omega
theorem disks_range (m : G3) : ∀ d ∈ disksL (3, 3, 12) m, 0 ≤ d ∧ d < ((4 : Nat) : Int) := by
  intro d hd
  simp only [disksL, List.mem_append, List.mem_map, List.mem_range] at hd
  rcases hd with ⟨i, hi, rfl⟩ | hd
  · exact slot_range m i (by omega)
  · split at hd
    · simp at hd; omega
    · simp at hd
end Go.Proofs.Ytldmeimebebllaa
namespace Go.Proofs.Ytldmeimebebllaa
open Go.Mo
set_option linter.unusedVariables false
variable {g : Fr} {cv : CV}
def rdisk (q m : G3) (slot : Int) : Int := if m.2.2 ≠ 0 ∧ m.2.1 = slot then q.1 else slot
theorem rdisk_slot {q m : G3} {slot : Int} (h : 0 ≤ slot ∧ slot < q.1) : slotV q m slot = (rdisk q m slot, true) := by
  simp only [slotV, rdisk]
  rw [if_neg (by omega)]
  split <;> rfl
theorem ref06_disk_val (yb mb : Nat) (q m : G3) (slot : Int) : Val g (bnk yb mb q m) (ref06_Bank_disk (ptr yb) slot) (rdisk q m slot) := by
  unfold ref06_Bank_disk
  simp only [Addr.add_add, Nat.reduceAdd]
  apply val_eq
  · repeat (first
      | (with_reducible refine wps_nil ?_)
      | (refine wps_ld _ (by rfl) ?_)
      | ((with_reducible apply wps_val); apply val_ite; rotate_left; refine fun (_ : ¬ _) => ?_; rotate_right; refine fun (_ : _ = true) => ?_)
      | ((with_reducible apply val_ite); rotate_left; refine fun (_ : ¬ _) => ?_; rotate_right; refine fun (_ : _ = true) => ?_)
      | (with_reducible exact wps_pure (ent_val rfl)))
  · simp only [rdisk]
    by_cases h3 : m.2.2 = 0
    · simp [h3]
    · by_cases h4 : m.2.1 = slot
      · simp [h3, h4]
      · simp [h3, h4]
theorem ref06_Read_spec (yb mb : Nat) (q m : G3) (R : Rk) (l1 l2 l3 l4 : Slc) (slot s : Int) :
    wps g (bnk yb mb q m * refQ mb R l1 l2 l3 l4) (ref06_Bank_Read (ptr yb) slot s) (fun x =>
      pr (x.2 = if (slotV q m slot).2 then R.rdErr (slotV q m slot).1 s else 11) * bnk yb mb q m * refQ mb R l1 l2 l3 l4 * own 1 x.1 (bv (if (slotV q m slot).2 then R.rd (slotV q m slot).1 s else []))) := by
  unfold ref06_Bank_Read
  refine wps_val (v := decide (slot < 0 ∨ slot ≥ q.1)) ?_ ?_
  · apply val_eq
    · repeat first | (with_reducible refine wps_nil ?_) | (refine wps_ld _ (by rfl) ?_) | ((with_reducible apply val_ite); rotate_left; refine fun (_ : ¬ _) => ?_; rotate_right; refine fun (_ : _ = true) => ?_) | (with_reducible exact wps_pure (ent_val rfl))
    · by_cases h : slot < 0 <;> simp [h]
  refine wps_ite (fun h => ?_) (fun h => ?_)
  · have hv : slotV q m slot = (0, false) := by simp only [decide_eq_true_eq] at h; simp only [slotV, if_pos h]
    rw [hv]
    simp only [Bool.false_eq_true, if_false]
    refine wps_pure ?_
    exact ent_own0 (ent_pick (ent_pick (ent_prq rfl)))
  · have hv := rdisk_slot (q := q) (m := m) (slot := slot) (by simp only [decide_eq_true_eq] at h; omega)
    rw [hv]
    simp only [if_true]
    refine wps_region (bnk yb mb q m) ent_pick1 ?_
    repeat first | (with_reducible refine wps_nil ?_) | (refine wps_ldI _ (by rfl) ?_)
    refine wps_stepVH (fun _ => ref06_disk_val yb mb q m slot) ?_
    refine wps_callH (fun _ => ref02_Read_spec mb R l1 l2 l3 l4 (rdisk q m slot) s) fun x => wps_pure ?_
    simp only [← star_assoc]
    exact ent_pick (ent_pick (ent_pick ent_drop))
theorem ref06_Write_spec {H : HP} (yb mb : Nat) (q m : G3) (R : Rk) (l1 l2 l3 l4 : Slc) (slot s : Int) (x : Slc) (b : List Int) (hx : Ent H (byt x b)) (hb : b.length ≤ 1099511627776) :
    wps g (H * bnk yb mb q m * refQ mb R l1 l2 l3 l4) (ref06_Bank_Write (ptr yb) slot s x) (fun e =>
      pr (e = if (slotV q m slot).2 then R.gate (slotV q m slot).1 s b.length else 11) * H * bnk yb mb q m * refQ mb (if (slotV q m slot).2 then R.write (slotV q m slot).1 s b else R) l1 l2 l3 l4) := by
  unfold ref06_Bank_Write
  refine wps_val (v := decide (slot < 0 ∨ slot ≥ q.1)) ?_ ?_
  · apply val_eq
    · repeat first | (with_reducible refine wps_nil ?_) | (refine wps_ld _ (by rfl) ?_) | ((with_reducible apply val_ite); rotate_left; refine fun (_ : ¬ _) => ?_; rotate_right; refine fun (_ : _ = true) => ?_) | (with_reducible exact wps_pure (ent_val rfl))
    · by_cases h : slot < 0 <;> simp [h]
  refine wps_ite (fun h => ?_) (fun h => ?_)
  · have hv : slotV q m slot = (0, false) := by simp only [decide_eq_true_eq] at h; simp only [slotV, if_pos h]
    rw [hv]
    simp only [Bool.false_eq_true, if_false]
    refine wps_pure ?_
    exact ent_pick (ent_pick (ent_prr rfl (Ent.refl _)))
  · have hv := rdisk_slot (q := q) (m := m) (slot := slot) (by simp only [decide_eq_true_eq] at h; omega)
    rw [hv]
    simp only [if_true]
    refine wps_region (bnk yb mb q m) ent_pick1 ?_
    repeat first | (with_reducible refine wps_nil ?_) | (refine wps_ldI _ (by rfl) ?_)
    refine wps_stepVH (fun _ => ref06_disk_val yb mb q m slot) ?_
    refine wps_call (F := bnk yb mb q m) (fun _ => ref02_Write_spec mb R l1 l2 l3 l4 (rdisk q m slot) s x b hx hb) ?_ fun e => wps_pure ?_
    · refine Ent.of_eq ?_
      ac_rfl
    · refine Ent.of_eq ?_
      ac_rfl
theorem ref06_Join_spec (yb mb : Nat) (q m k : G3) : wps g (bnk yb mb q m) (ref06_Bank_Join (ptr yb) k) (fun _ => bnk yb mb q (if FitsB q k then k else m)) := by
  unfold ref06_Bank_Join
  repeat (first
    | (with_reducible refine wps_val (ref06_Fits_val _ _) ?_)
    | (with_reducible refine wps_nil ?_)
    | (with_reducible refine wps_alloc fun _ => ?_)
    | (refine wps_ldGI _ _ _ (by rfl) ?_)
    | (with_reducible refine wps_regionH ?_))
  by_cases h : FitsB q k = true
  · simp only [h, if_true]
    repeat first | (with_reducible refine wps_nil ?_) | (refine wps_ldG _ _ _ (by rfl) ?_) | (refine wps_stA (by simp) (by simp [Value.oneCell']) ?_)
    exact wps_pure (Ent.trans (ent_right _ _) (Ent.of_eq rfl))
  · simp only [h, if_false, Bool.false_eq_true]
    exact wps_pure ent_drop
theorem ref06_Bad_spec (yb mb : Nat) (q m : G3) (hq : q.1 ≤ 16) (R : Rk) (l1 l2 l3 l4 : Slc) :
    wps g (bnk yb mb q m * refQ mb R l1 l2 l3 l4) (ref06_Bank_Bad (ptr yb)) (fun s => bnk yb mb q m * refQ mb R l1 l2 l3 l4 * own 1 s (iv (badL q m R))) := by
  unfold ref06_Bank_Bad
  simp only [Addr.add_add, Nat.reduceAdd]
  refine wps_alloc fun c => ?_
  refine wps_swap (A := pc c []) (B := own 1 ⟨some ⟨c, 0, none⟩, 0, 0⟩ []) (pc_own (n := 0) (z := 1) rfl) ?_
  refine wps_loop (fun t => ex fun n : Nat => pr (t.2 = (n : Int) ∧ (n : Int) ≤ max 0 q.1) * bnk yb mb q m * refQ mb R l1 l2 l3 l4 * own 1 t.1 (iv ((List.range n).filter (isBad q m R)))) (fun t => (q.1 - t.2).toNat) ?_ fun t => ?_
  · refine ent_ex 0 (ent_pickS (by rfl) ?_)
    repeat first | (with_reducible refine ent_pick ?_) | (refine ent_prq ?_)
    all_goals first | exact ⟨rfl, by omega⟩ | trivial
  · refine wps_ex fun n => wps_prP fun ⟨ht, hn⟩ => ?_
    repeat first | (with_reducible refine wps_nil ?_) | (refine wps_ld _ (by rfl) ?_)
    refine wps_ite (fun hc => ?_) (fun hc => ?_)
    · have hc' : t.2 < q.1 := by simpa using hc
      have hv := rdisk_slot (q := q) (m := m) (slot := t.2) (by omega)
      have hf : (List.range (n + 1)).filter (isBad q m R) = (List.range n).filter (isBad q m R) ++ if isBad q m R n then [n] else [] := by
        rw [List.range_succ, List.filter_append]
        by_cases h : isBad q m R n = true <;> simp [h]
      have hib : isBad q m R n = (R.failedB (rdisk q m t.2) || (m.2.2 == 1 && m.2.1 == t.2)) := by
        unfold isBad; rw [← ht, hv]
      refine wps_bindV (u := isBad q m R n) ?_ ?_
      · refine wps_region (bnk yb mb q m) ent_pick1 ?_
        refine wps_nil ?_
        refine wps_ldI (ptr mb) (by rfl) ?_
        refine wps_stepVH (fun _ => ref06_disk_val yb mb q m t.2) ?_
        refine wps_stepVH (fun _ => ref02_Failed_val mb R l1 l2 l3 l4 (rdisk q m t.2)) ?_
        rw [hib]
        by_cases h1 : R.failedB (rdisk q m t.2) = true
        · rw [if_pos h1]
          exact wps_pure (ent_prr (by simp [h1]) (Ent.refl _))
        · rw [if_neg h1]
          refine wps_nil ?_
          refine wps_ldI m.2.2 (by rfl) ?_
          by_cases h2 : m.2.2 = 1
          · rw [if_pos (by simpa using h2)]
            refine wps_nil ?_
            refine wps_ldI m.2.1 (by rfl) ?_
            exact wps_pure (ent_prr (by simp [h1, h2]) (Ent.refl _))
          · rw [if_neg (by simpa using h2)]
            exact wps_pure (ent_prr (by simp [h1, h2]) (Ent.refl _))
      · refine wps_ite (fun hb => ?_) (fun hb => ?_)
        · refine wps_fact (Ent.trans (ent_pick1 (A := own 1 t.1 (iv ((List.range n).filter (isBad q m R))))) (own_len _ _ _)) fun ⟨hl, _⟩ => ?_
          have hl2 : t.1.len ≤ n := by
            have := List.length_filter_le (isBad q m R) (List.range n)
            simp only [iv, List.length_map, List.length_range] at hl this
            omega
          refine wps_alloc fun c => ?_
          refine wps_app 1 [Value.int .i64 t.2] rfl (by decide) (rsl_pc rfl) (by simp [Value.oneCell']) (by (try dsimp only); omega) fun s' hs' => wps_pure ?_
          refine ent_prr (by rw [range_add1 ht (by omega)]; (try dsimp only); omega) (ent_ex (n + 1) ?_)
          refine ent_pickS (by rw [hf, if_pos hb, ht]; simp [iv]) (ent_pick (ent_pick ?_))
          exact ent_prq ⟨range_add1 ht (by omega), by omega⟩
        · refine wps_pure ?_
          refine ent_prr (by rw [range_add1 ht (by omega)]; (try dsimp only); omega) (ent_ex (n + 1) ?_)
          refine ent_pickS (by rw [hf, if_neg hb]; simp [iv]) (ent_pick (ent_pick ?_))
          exact ent_prq ⟨range_add1 ht (by omega), by omega⟩
    · have hc' : ¬ t.2 < q.1 := by simpa using hc
      have hnq : (List.range n).filter (isBad q m R) = badL q m R := by
        unfold badL; congr 2; omega
      rw [hnq]
      refine wps_mapR (wps_pure ?_)
      exact ent_pick (ent_pick ent_drop)
end Go.Proofs.Ytldmeimebebllaa
namespace Go.Proofs.Ytldmeimebebllaa
open Go.Mo
set_option linter.unusedVariables false
variable {g : Fr} {cv : CV}
structure CallA where
  what : Int
  disk : Int
  n : Int
  ds : Slc
  data : List Int
  ks : Slc
  keeps : List Int
def CallA.cells (c : CallA) : List Value := [.int .i64 c.what, .int .i64 c.disk, .int .i64 c.n, .slice c.ds.base c.ds.len c.ds.cap, .slice c.ks.base c.ks.len c.ks.cap]
def CallA.t (c : CallA) : Int × Int × Int × Slc × Slc := (c.what, c.disk, c.n, c.ds, c.ks)
structure CallA.ok (c : CallA) : Prop where
  n : c.n < 9223372036854775808
  data : c.data.length ≤ 140737488355328
  keeps : c.keeps.length ≤ 140737488355328
instance (mb : Nat) (R : Rk) (l1 l2 l3 l4 : Slc) : RdC mb (refQ mb R l1 l2 l3 l4) [.int .i64 R.n, .int .i64 R.ns, vS l1, vS l2, vS l3, vS l4, .int .i64 R.count, .bool R.off] :=
  ⟨ex_ent fun sl => ex_ent fun cl => ex_ent fun cs => Ent.trans (ent_right _ _) (pc_ro _ _)⟩
end Go.Proofs.Ytldmeimebebllaa
namespace Go.Proofs.Ytldmeimebebllaa
open Go.Mo
set_option linter.unusedVariables false
variable {g : Fr} {cv : CV}
structure Rk.good (R : Rk) : Prop where
  ok : ∀ j, j < R.n → (R.dk j).ok R.ns
theorem dskAt_ok {ns p : Nat} {D : Dk} : Ent (dskAt ns p D) (pr (D.ok ns)) := ex_ent fun ls => ex_ent fun mb => ex_ent fun sl => ex_ent fun sc => fun o ho => by
  have := ent_left _ _ o (ent_left _ _ o (ent_left _ _ o (ent_left _ _ o ho)))
  exact this.2.2
theorem rackP_good {rb : Nat} {R : Rk} {ds : Slc} {ps : List Nat} : Ent (rackP rb R ds ps) (pr R.good) := fun o ho => ⟨fun j hj => by
  rw [rackP_focus rb R ds ps hj] at ho
  exact dskAt_ok o (ent_right _ _ o ho)⟩
theorem refQ_good {mb : Nat} {R : Rk} {l1 l2 l3 l4 : Slc} : Ent (refQ mb R l1 l2 l3 l4) (pr R.good) := ex_ent fun sl => ex_ent fun cl => ex_ent fun cs => fun o ho => by
  have h : RQ R l1 l2 l3 l4 sl cl cs := ent_left _ _ o (ent_left _ _ o (ent_left _ _ o (ent_left _ _ o (ent_left _ _ o (ent_left _ _ o (ent_left _ _ o ho))))))
  exact ⟨h.ok⟩
theorem Rk.good.rd {R : Rk} (h : R.good) (k s : Int) : (R.rd k s).length ≤ 64 := by
  rw [Rk.rd]
  split
  · rename_i he
    have hx : ¬ R.off = true ∧ ¬ (k < 0 ∨ k ≥ R.n ∨ s < 0 ∨ s ≥ R.ns) := by
      unfold Rk.rdErr at he
      by_cases ho : R.off = true
      · rw [if_pos ho] at he; cases he
      · rw [if_neg ho] at he
        refine ⟨ho, fun hr => ?_⟩
        rw [if_pos hr] at he; cases he
    have hok := h.ok k.toNat (by omega)
    unfold Dk.sec
    cases hc : (R.dk k.toNat).cached s with
    | some b => have := (hok.2 s b hc).1; simp only; omega
    | none => have := hok.1 s.toNat (by omega); simp only; omega
  · simp
theorem Rk.good.lst {R : Rk} (h : R.good) (k s : Int) : (R.lst k s).length ≤ 64 := by
  rw [Rk.lst]
  split
  · rename_i he
    have hx : ¬ (k < 0 ∨ k ≥ R.n ∨ s < 0 ∨ s ≥ R.ns) := by
      intro hr
      rw [Rk.lErr, if_pos hr] at he; cases he
    have := (h.ok k.toNat (by omega)).1 s.toNat (by omega)
    omega
  · simp
end Go.Proofs.Ytldmeimebebllaa
namespace Go.Proofs.Ytldmeimebebllaa
open Go.Mo
set_option linter.unusedVariables false
variable {g : Fr} {cv : CV}
theorem wps_stepC3 {α β : Type} {H : HP} {Q : α → HP} {R : HP} {m : M β} {k : β → M α} {A1 A2 A3 H1 H2 H3 : HP} {Q' : β → HP} [h1 : Has H A3 H1] [h2 : Has H1 A2 H2] [h3 : Has H2 A1 H3] [d : Drops H3 R] (hs : ∀ g', wps g' (A1 * A2 * A3) m Q') (h' : ∀ x, wps g (H3 * Q' x) (k x) Q) : wps g H (bindM (stepI (Iv g R) m) k) Q :=
  wps_stepC hs (Ent.of_eq (by rw [h1.eq, h2.eq, h3.eq]; simp only [star_assoc])) d.ent h'
theorem wps_stepQ2 {α β : Type} {H : HP} {Q : α → HP} {R : HP} {m : M β} {k : β → M α} {A1 A2 H1 H2 : HP} {Q' : β → HP} [h1 : Has H A2 H1] [h2 : Has H1 A1 H2] (hs : ∀ g', wps g' (A1 * A2) m Q') (hR : ∀ x, Ent (H2 * Q' x) R) (h' : ∀ x, wps g (H2 * Q' x) (k x) Q) : wps g H (bindM (stepI (Iv g R) m) k) Q :=
  wps_bind (wps_stepI (wps_tail2 hs fun x => Ent.refl _) hR) h'
structure CallB where
  what : Int
  slot : Int
  n : Int
  ds : Slc
  data : List Int
  mem : G3
def CallB.cells (c : CallB) : List Value := [.int .i64 c.what, .int .i64 c.slot, .int .i64 c.n, .slice c.ds.base c.ds.len c.ds.cap, .int .i64 c.mem.1, .int .i64 c.mem.2.1, .int .i64 c.mem.2.2]
def CallB.t (c : CallB) : Int × Int × Int × Slc × Int × Int × Int := (c.what, c.slot, c.n, c.ds, c.mem.1, c.mem.2.1, c.mem.2.2)
structure CallB.ok (c : CallB) : Prop where
  n : c.n < 9223372036854775808
  data : c.data.length ≤ 140737488355328
theorem bank_Off_val (bb rb : Nat) (q m : G3) (R : Rk) (ds : Slc) (ps : List Nat) : Val g (bnk bb rb q m * rackP rb R ds ps) (bank_Bank_Off (ptr bb)) R.off := by
  unfold bank_Bank_Off
  repeat first | (with_reducible refine wps_nil ?_) | (refine wps_ld _ (by rfl) ?_)
  refine wps_tailH (fun _ => device_Rack_Off_val rb R ds ps) fun x => ?_
  refine ent_prP fun h => ?_
  refine ent_prr h ?_
  simp only [← star_assoc]
  repeat first | (with_reducible exact ent_drop) | (with_reducible refine ent_pick ?_)
theorem badL_len (q m : G3) (R : Rk) (hq : q.1 ≤ 16) : (badL q m R).length ≤ 16 := by
  have := List.length_filter_le (isBad q m R) (List.range q.1.toNat)
  unfold badL
  rw [List.length_range] at this
  omega
theorem iv_zv (l : List Nat) : iv l = zv (l.map fun i : Nat => (i : Int)) := by simp [iv, zv]
end Go.Proofs.Ytldmeimebebllaa
namespace Go.Mo
set_option linter.unusedVariables false
section
variable {α β σ τ ξ : Type} {g : Fr} {H H' : HP} {Q : α → HP}
theorem wps_slice3 {k : Slc → M α} {s : Slc} {h m : Int} (h' m' : Nat) (hh : h = (h' : Int)) (hm : m = (m' : Int)) (h1 : h' ≤ m') (h2 : m' ≤ s.cap) (hk : wps g H (k ⟨s.base, h', m'⟩) Q) : wps g H (bindM (slice3M s h m) k) Q :=
  fun w a Qf ho ha hq => ⟨h', m', hh, hm, h1, h2, hk w a Qf ho ha hq⟩
theorem wps_noZero {k : Slc → M α} {n : Int} (m : Nat) (hn : n = (m : Int)) (hb : m ≤ 281474976710656) (h : ∀ b cs, m ≤ cs.length → wps g (H * pc b cs) (k ⟨some ⟨b, 0, none⟩, m, cs.length⟩) Q) : wps g H (bindM (noZeroM n) k) Q := fun w a Qf ho ha hq => by
  subst hn
  refine ⟨by omega, by omega, fun cs elem hl => ?_⟩
  have := own_push (own_draw (own_draw ho)) (.cells cs.toArray elem) (World.allocC (drawW (drawW w)) cs.toArray elem) rfl ⟨rfl, rfl⟩ (fun _ _ _ h => by cases h; rfl)
  exact h w.heap.size cs (by simpa using hl) _ _ Qf this.1 ⟨a, _, this.2, Hp.le_refl _, ha, ⟨elem, by simp [drawW]⟩⟩ hq
theorem wps_copyP {k : Int → M α} {z b off len cap : Nat} {x : Slc} {old new : List Value} [hp : PickC b H old H'] (hx : Ent H (rsl z x new)) (hv : ∀ v ∈ new, v.oneCell' = true) (hl : off + len * z ≤ old.length)
    (h : wps g (H' * pc b (ovw old off (new.take (min x.len len * z)))) (k ((min x.len len : Nat) : Int)) Q) : wps g H (bindM (copyM z ⟨some ⟨b, off, none⟩, len, cap⟩ x) k) Q := fun w a Qf ho ha hq => by
  obtain ⟨hc, hlx⟩ := cellsAt_rsl hx ho ha
  have hmin : min x.len len * z ≤ len * z := Nat.mul_le_mul_right _ (Nat.min_le_right _ _)
  have hmin' : min x.len len * z ≤ x.len * z := Nat.mul_le_mul_right _ (Nat.min_le_left _ _)
  refine ⟨new.take (min x.len len * z), ?_, fun _ => ?_, ?_⟩
  · cases hb : x.base with
    | none =>
      rw [hb] at hc
      have : new = [] := hc
      subst this
      show List.take _ [] = []
      simp
    | some ad =>
      rw [hb] at hc
      intro j v hj
      rw [List.getElem?_take] at hj
      split at hj
      · exact hc j v hj
      · cases hj
  · rw [List.length_take, hlx]
    show _ = min x.len len * z
    omega
  · rw [hp.eq] at ha
    obtain ⟨hst, a', ho', ha'⟩ := own_row (off := off) ho ha (new := new.take (min x.len len * z)) (by rw [List.length_take]; omega) (fun v hv' => hv v (List.mem_of_mem_take hv'))
    exact ⟨hst, h _ a' Qf ho' ha' hq⟩
theorem wps_copyT {k : Int → M α} {b n l h : Nat} {x : Slc} {old new : List Value} [hp : PickC b H old H'] (hx : Ent H (rsl 1 x new)) (hv : ∀ v ∈ new, v.oneCell' = true) (hn : n ≤ old.length) (h1 : l ≤ h) (h2 : h ≤ n)
    (hk : wps g (H' * pc b (ovw old l (new.take (min x.len (h - l))))) (k ((min x.len (h - l) : Nat) : Int)) Q) : wps g H (bindM (copyM 1 (subS 1 ⟨some ⟨b, 0, none⟩, n, n⟩ l h) x) k) Q := by
  by_cases hc : n = l
  · have e : h - l = 0 := by omega
    have e2 : subS 1 ⟨some ⟨b, 0, none⟩, n, n⟩ l h = ⟨some ⟨b, 0, none⟩, 0, n - l⟩ := by simp [subS, hc, e]
    rw [e2]
    refine wps_copyP hx hv (by omega) ?_
    rw [e] at hk
    simp only [Nat.min_zero, Nat.zero_mul, List.take_zero, ovw_nil] at hk ⊢
    exact hk
  · have e2 : subS 1 ⟨some ⟨b, 0, none⟩, n, n⟩ l h = ⟨some ⟨b, l, none⟩, h - l, n - l⟩ := by simp [subS, hc, Addr.add_mk]
    rw [e2]
    refine wps_copyP hx hv (by omega) ?_
    rw [Nat.mul_one]
    exact hk
theorem wps_bstr {k : ByteArray → M α} {s : Slc} {ns : List Int} (hx : Ent H (rsl 1 s (ns.map (Value.int .u8)))) (h : wps g H (k (strB ns)) Q) : wps g H (bindM (bstrM s) k) Q := fun w a Qf ho ha hq => by
  obtain ⟨hc, hl⟩ := cellsAt_rsl hx ho ha
  exact ⟨ns, hc, fun _ => by simpa using hl, h w a Qf ho ha hq⟩
theorem wps_appendG {k : Slc → M α} {z : List Value} {bytes : Nat} {s x : Slc} {old new : List Value} (zl : Nat) (hzl : z.length = zl) (hx : Ent H (rsl zl x new)) (hs : Ent H (rsl zl s old)) (hcap : s.cap < s.len + x.len) (hcl : s.cap ≤ s.len + x.len)
    (hb : (16 * (s.len + x.len) + 4096) * bytes ≤ 2 ^ 48) (h : ∀ s', s'.len = s.len + x.len → wps g (H * own zl s' (old ++ new)) (k s') Q) :
    wps g H (bindM (appendM z bytes s x) k) Q := fun w a Qf ho ha hq => by
  subst hzl
  obtain ⟨hc, hlx⟩ := cellsAt_rsl hx ho ha
  obtain ⟨hcs, hls⟩ := cellsAt_rsl hs ho ha
  refine ⟨new, hc, fun _ => hlx, ?_⟩
  rw [if_neg (by omega)]
  refine ⟨?_, old, hcs, fun _ => hls, fun newCap elem hcap => ?_⟩
  · have := nextcap_le (n := s.len + x.len) (c := s.cap) hcl
    exact Nat.le_trans (Nat.mul_le_mul_right _ this) hb
  · have hp := own_push (own_draw ho) (.cells (old ++ new ++ zs z (newCap - (s.len + x.len))).toArray elem) (World.allocC (drawW w) (old ++ new ++ zs z (newCap - (s.len + x.len))).toArray elem) rfl ⟨rfl, rfl⟩ (fun _ _ _ h => by cases h; rfl)
    refine h ⟨some ⟨w.heap.size, 0, none⟩, s.len + x.len, newCap⟩ rfl _ _ Qf hp.1 ?_ hq
    refine ⟨a, _, hp.2, Hp.le_refl _, ha, ?_⟩
    refine ⟨zs z (newCap - (s.len + x.len)), ?_⟩
    refine (ent_pr (A := pc w.heap.size (old ++ new ++ zs z (newCap - (s.len + x.len)))) ?_) _ ⟨elem, by simp [drawW]⟩
    refine ⟨rfl, ?_, ?_, hcap⟩
    · simp only [List.length_append, Nat.add_mul]; omega
    · simp only [List.length_append, zs_len]
      rw [hls, hlx, ← Nat.add_mul, ← Nat.add_mul]
      congr 1; omega
def IterX (cv : CV) (fv : Value) (encX : ξ → Array Value) (n : Nat) (X : Nat → ξ → HP) (A : HP) : Prop :=
  ∀ (yv : Value) (I : Nat → HP) (E : HP),
    (∀ (i : Nat) (x : ξ), i < n → ∀ g, wps g (A * (X i x * I i)) (cv.call yv (encX x)) fun v => orp (pr (v = .bool true) * (A * I (i + 1))) (pr (v = .bool false) * (A * E))) →
    ∀ g, wps g (A * I 0) (cv.enter fv #[yv]) fun _ => A * orp (I n) E
theorem wps_rangeX {cv : CV} {fv : Value} {encX : ξ → Array Value} {asg : ξ → M τ} {body : τ → M (Unit ⊕ Jump)} {kn kr : Nat → M α} {ke : Nat → Nat → M α} {n : Nat} {X : Nat → ξ → HP} {A F : HP} (I : Nat → HP) (E : Jump → HP) (R : Nat → ξ → τ → HP)
    (hit : IterX cv fv encX n X A) (h0 : Ent H (F * (A * I 0)))
    (hasg : ∀ (i : Nat) (x : ξ), i < n → ∀ g, wps g (A * (X i x * I i)) (asg x) (R i x))
    (hbody : ∀ (i : Nat) (x : ξ), i < n → ∀ t g, wps g (R i x t) (body t) fun r => match r with | .inl _ => A * I (i + 1) | .inr j => A * E j)
    (hn : ∀ D, wps g (F * (A * I n) * po D (.deferred (some []))) (kn D) Q)
    (hr : ∀ D, wps g (F * (A * E .ret) * po D (.deferred (some []))) (kr D) Q)
    (he : ∀ D id, wps g (F * (A * E (.exit id)) * po D (.deferred (some []))) (ke D id) Q) : wps g H (rangeFM cv fv encX asg body kn kr ke) Q := fun w a Qf ho ha hq => by
  intro mk hmk0 hyield
  have hmk : ∀ st p, Obj.soft (mk st p) := fun st p cs e f h => absurd h (hmk0 st p cs e f)
  have ha := h0 a ha
  have p1 := own_push ho (.deferred (some [])) (World.pushO w (.deferred (some []))) rfl ⟨rfl, rfl⟩ (fun _ _ _ h => by cases h)
  have q1 : (F * (A * I 0) * po w.heap.size (.deferred (some []))).p _ := ⟨a, _, p1.2, Hp.le_refl _, ha, by simp [po]⟩
  have p2 := own_push p1.1 (mk .ready none) (World.pushO (World.pushO w (.deferred (some []))) (mk .ready none)) rfl ⟨rfl, rfl⟩ (hmk _ _)
  have hsz : (World.pushO w (.deferred (some []))).heap.size = w.heap.size + 1 := by simp [World.pushO]
  have q2 : (F * (A * I 0) * po w.heap.size (.deferred (some [])) * po (w.heap.size + 1) (mk .ready none)).p _ := ⟨_, _, p2.2, Hp.le_refl _, q1, by rw [← hsz]; simp [po]⟩
  have hgo := hit (yieldV (w.heap.size + 1)) (fun i => I i * po (w.heap.size + 1) (mk .ready none)) (ex fun j => E j * po (w.heap.size + 1) (mk .done (some j.code))) (fun i x hx g' => by
    intro w1 a1 Qf1 ho1 ha1 hq1
    refine hyield x Qf1 w1 ?_
    refine wps_round hmk (hasg i x hx) (hbody i x hx) w1 a1 Qf1 ho1 (by rw [star_assoc, star_assoc]; exact ha1) fun v w2 a2 ho2 ha2 => hq1 v w2 a2 ho2 ?_
    rcases ha2 with ha2 | ha2
    · left; rw [star_assoc] at ha2; exact ha2
    · right
      refine Ent.starr ?_ a2 ha2
      refine ex_ent fun j => ?_
      rw [star_assoc]
      exact Ent.starr (ent_ex j (Ent.refl _)))
  have hfr := wps_frame (g := g) (F := F * po w.heap.size (.deferred (some []))) hgo
  refine hfr _ _ _ p2.1 ?_ fun v w3 a3 ho3 ha3 => ?_
  · refine Ent.of_eq ?_ _ q2
    simp only [star_assoc]
    ac_rfl
  · have hsplit : ∀ B : HP, ∀ ob, (A * (B * po (w.heap.size + 1) ob) * (F * po w.heap.size (.deferred (some [])))) = (F * (A * B) * po w.heap.size (.deferred (some [])) * po (w.heap.size + 1) ob) := by
      intro B ob; ac_rfl
    have ha3' : (orp (F * (A * I n) * po w.heap.size (.deferred (some [])) * po (w.heap.size + 1) (mk .ready none))
        (ex fun j => F * (A * E j) * po w.heap.size (.deferred (some [])) * po (w.heap.size + 1) (mk .done (some j.code)))).p a3 := by
      obtain ⟨x1, x2, hd, hl, ⟨y1, y2, hd', hl', hA, hor⟩, hF⟩ := ha3
      rcases hor with hor | hor
      · left
        rw [← hsplit]
        exact ⟨x1, x2, hd, hl, ⟨y1, y2, hd', hl', hA, hor⟩, hF⟩
      · right
        obtain ⟨j, hor⟩ := hor
        refine ⟨j, ?_⟩
        show (F * (A * E j) * po w.heap.size (.deferred (some [])) * po (w.heap.size + 1) (mk .done (some j.code))).p a3
        rw [← hsplit]
        exact ⟨x1, x2, hd, hl, ⟨y1, y2, hd', hl', hA, hor⟩, hF⟩
    rcases ha3' with ha3 | ⟨j, ha3⟩
    · refine ⟨.ready, none, own_po ho3 ha3, by simp, ?_⟩
      obtain ⟨a4, ho4, ha4⟩ := own_put (mk .exhausted none) (hmk _ _) ho3 ha3
      exact hn _ _ a4 Qf ho4 (ent_left _ _ a4 ha4) hq
    · refine ⟨.done, some j.code, own_po ho3 ha3, by simp, j, rfl, ?_⟩
      obtain ⟨a4, ho4, ha4⟩ := own_put (mk .exhausted (some j.code)) (hmk _ _) ho3 ha3
      have ha5 := ent_left _ _ a4 ha4
      cases j with
      | ret => exact hr _ _ a4 Qf ho4 ha5 hq
      | exit id => exact he _ id _ a4 Qf ho4 ha5 hq
end
end Go.Mo
namespace Go.Proofs.Ytldmeimebebllaa
open Go.Mo
set_option linter.unusedVariables false
variable {g : Fr} {cv : CV}
def Byts (b : List Int) : Prop := ∀ n ∈ b, 0 ≤ n ∧ n < 256
theorem Byts.app {a b : List Int} (ha : Byts a) (hb : Byts b) : Byts (a ++ b) := fun n hn => (List.mem_append.1 hn).elim (ha n) (hb n)
theorem Byts.take {b : List Int} (h : Byts b) (k : Nat) : Byts (b.take k) := fun n hn => h n (List.mem_of_mem_take hn)
theorem Byts.drop {b : List Int} (h : Byts b) (k : Nat) : Byts (b.drop k) := fun n hn => h n (List.mem_of_mem_drop hn)
theorem Byts.get {b : List Int} (h : Byts b) {k : Nat} (hk : k < b.length) : 0 ≤ b[k] ∧ b[k] < 256 := h _ (List.getElem_mem hk)
theorem Byts.rep (k : Nat) : Byts (List.replicate k 0) := fun n hn => by
  rw [List.mem_replicate] at hn; omega
theorem strB_list (ns : List Int) : (strB ns).toList = ns.map fun n => UInt8.ofNat n.toNat := by
  have key : ∀ (ns : List Int) (r : ByteArray), (ns.foldl (fun r n => r.push (UInt8.ofNat n.toNat)) r).data.toList = r.data.toList ++ ns.map fun n => UInt8.ofNat n.toNat := by
    intro ns
    induction ns with
    | nil => intro r; simp
    | cons n ns ih =>
      intro r
      rw [List.foldl_cons, ih]
      simp [ByteArray.push]
  rw [Go.ByteArray.toList_eq, strB, key]
  simp
theorem strEq_dec {x y : List Int} (hx : Byts x) (hy : Byts y) : strEq (strB x) (strB y) = decide (x = y) := by
  have key : ∀ (x y : List Int), Byts x → Byts y → (x.map (fun n => UInt8.ofNat n.toNat) = y.map fun n => UInt8.ofNat n.toNat) → x = y := by
    intro x
    induction x with
    | nil => intro y _ _ h; cases y <;> simp at h; rfl
    | cons a x ih =>
      intro y hx hy h
      cases y with
      | nil => simp at h
      | cons b y =>
        simp only [List.map_cons, List.cons.injEq] at h
        have ha := hx a (by simp)
        have hb := hy b (by simp)
        have h1 := congrArg UInt8.toNat h.1
        simp only [UInt8.toNat_ofNat'] at h1
        rw [Nat.mod_eq_of_lt (by omega), Nat.mod_eq_of_lt (by omega)] at h1
        rw [ih y (fun n hn => hx n (by simp [hn])) (fun n hn => hy n (by simp [hn])) h.2]
        congr 1
        omega
  unfold strEq
  rw [strB_list, strB_list]
  by_cases h : x = y
  · simp [h]
  · rw [decide_eq_false h]
    exact beq_eq_false_iff_ne.2 fun e => h (key x y hx hy e)
theorem bytes_Equal_val {H : HP} {s t : Slc} {x y : List Int} (hx : Ent H (byt s x)) (hy : Ent H (byt t y)) (bx : Byts x) (bq : Byts y) : Val g H (bytes_Equal s t) (decide (x = y)) := by
  unfold bytes_Equal
  refine wps_bstr hx ?_
  refine wps_bstr hy ?_
  rw [strEq_dec bx bq]
  exact wps_pure (ent_pr rfl)
theorem byt_take {s : Slc} {b : List Int} {h : Nat} (hh : h ≤ s.len) : Ent (byt s b) (byt (subS 1 s 0 h) (b.take h)) := Ent.trans (rsl_sub (Nat.zero_le _) hh) (Ent.of_eq (by simp [byt, bv, List.map_take]))
theorem byt_drop {s : Slc} {b : List Int} {l : Nat} (hl : b.length = s.len) (hh : l ≤ s.len) : Ent (byt s b) (byt (subS 1 s l s.len) (b.drop l)) := Ent.trans (rsl_sub hh (Nat.le_refl _)) (Ent.of_eq (by
  have : (b.drop l).length ≤ s.len - l := by simp; omega
  simp only [byt, bv, Nat.mul_one]
  rw [← List.map_drop, ← List.map_take, List.take_of_length_le this]))
theorem byt_sub {s : Slc} {b : List Int} {l h : Nat} (h1 : l ≤ h) (hh : h ≤ s.len) : Ent (byt s b) (byt (subS 1 s l h) ((b.drop l).take (h - l))) := Ent.trans (rsl_sub h1 hh) (Ent.of_eq (by simp [byt, bv, List.map_take, List.map_drop]))
theorem subS_len (z : Nat) (s : Slc) (l h : Nat) : (subS z s l h).len = h - l := rfl
theorem bytes_HasPrefix_val {H : HP} {s t : Slc} {x y : List Int} (hx : Ent H (byt s x)) (hy : Ent H (byt t y)) (bx : Byts x) (bq : Byts y) : Val g H (bytes_HasPrefix s t) (decide (y.length ≤ x.length ∧ x.take y.length = y)) := by
  unfold bytes_HasPrefix
  refine wps_fact (len_of hx) fun hlx => ?_
  refine wps_fact (len_of hy) fun hly => ?_
  refine wps_fact (cap_of hx) fun hcx => ?_
  refine wps_val ?_ (wps_pure (ent_pr rfl))
  refine wps_ite (fun h => ?_) (fun h => ?_)
  · have h' : y.length ≤ x.length := by simp only [decide_eq_true_eq] at h; omega
    refine wps_slice 0 t.len rfl rfl (Nat.zero_le _) (by omega) ?_
    refine wps_val (bytes_Equal_val (x := x.take t.len) (y := y) (Ent.trans hx (byt_take (by omega))) hy (bx.take _) bq) ?_
    refine wps_pure (ent_prr ?_ (Ent.refl _))
    rw [← hly]
    simp [h']
  · have h' : ¬ y.length ≤ x.length := by simp only [decide_eq_true_eq] at h; omega
    exact wps_pure (ent_prr (by simp [h']) (Ent.refl _))
theorem byt_base {s : Slc} {b : List Int} (h : s.base = none) : Ent (byt s b) (pr (b = [] ∧ s.len = 0)) := fun o ho => by
  rcases ho with ho | ⟨ad, all, ho⟩
  · exact ⟨by simpa [bv] using ho.2, ho.1⟩
  · have := (ent_left _ _ o ho).1
    rw [h] at this; cases this
theorem bytes_Clone_spec {H : HP} {s : Slc} {b : List Int} (hx : Ent H (byt s b)) (hb : b.length ≤ 1099511627776) : wps g H (bytes_Clone s) (fun t => H * own 1 t (bv b)) := by
  unfold bytes_Clone
  refine wps_fact (len_of hx) fun hl => ?_
  refine wps_ite (fun h => ?_) (fun h => ?_)
  · have hn : s.base = none := by simpa using h
    refine wps_fact (Ent.trans hx (byt_base hn)) fun ⟨h1, _⟩ => ?_
    subst h1
    refine wps_pure (ent_own0 (Ent.refl _))
  · refine wps_alloc fun c => ?_
    refine wps_swap (A := pc c []) (B := own 1 ⟨some ⟨c, 0, none⟩, 0, 0⟩ []) (pc_own (n := 0) (z := 1) rfl) ?_
    refine wps_app 1 (bv b) rfl (by decide) (Ent.trans (ent_left _ _) hx) (by simp [bv, Value.oneCell']) (by (try dsimp only); omega) fun s' hs' => wps_pure ?_
    rw [List.nil_append]
    repeat with_reducible exact ent_drop
def zx : List Int → List Int → List Int
  | a :: xs, b :: ys => bXor .u8 a b :: zx xs ys
  | xs, [] => xs
  | [], _ => []
theorem zx_nil (a : List Int) : zx a [] = a := by cases a <;> rfl
theorem nil_zx (b : List Int) : zx [] b = [] := by cases b <;> rfl
theorem zx_len : ∀ (a b : List Int), (zx a b).length = a.length
  | [], b => by rw [nil_zx]
  | a :: xs, [] => rfl
  | a :: xs, b :: ys => by simp [zx, zx_len xs ys]
theorem zx_step : ∀ (a b : List Int) (i : Nat) (hi : i < b.length) (hb : i < a.length), (zx a (b.take i))[i]? = a[i]? ∧ (zx a (b.take i)).set i (bXor .u8 a[i] b[i]) = zx a (b.take (i + 1))
  | a :: xs, b :: ys, 0, _, _ => by cases xs <;> simp [zx, zx_nil, nil_zx]
  | a :: xs, b :: ys, i + 1, hi, ha => by
    have := zx_step xs ys i (by simpa using hi) (by simpa using ha)
    simp [zx, this]
  | [], _, _, _, h => by simp at h
  | _, [], _, h, _ => by simp at h
def xorB (a b : List Int) : List Int := if a.length < b.length then zx b a else zx a b
theorem zx_spec {H : HP} {s t : Slc} {a b : List Int} (hs : Ent H (byt s a)) (ht : Ent H (byt t b)) (hab : b.length ≤ a.length) (hl : a.length ≤ 1099511627776) (K : Slc → M Slc)
    (hK : K = fun x16 => loopM (fun (s2 : (Int)) =>
  (if (decide (s2 < ((t.len : Nat) : Int))) = true then
    bindM (idxM t s2 1) fun x22 =>
      bindM (ld (Value.int .u8) x22) fun x23 =>
      bindM (idxM x16 s2 1) fun x26 =>
      bindM (ld (Value.int .u8) x26) fun x27 =>
      bindM (idxM x16 s2 1) fun x30 =>
      bindM (st x30 (.int .u8 (bXor .u8 x27 x23))) fun _ =>
      pureM (.inl (w64 (s2 + 1)))
    else
    mapR (pureM x16))) 0) : wps g H (bindM (bytes_Clone s) K) (fun u => H * own 1 u (bv (zx a b))) := by
  subst hK
  refine wps_fact (len_of hs) fun hls => ?_
  refine wps_fact (len_of ht) fun hlt => ?_
  refine wps_bind1 (bytes_Clone_spec hs hl) fun u => ?_
  refine wps_fact (Ent.trans (ent_pick1 (A := own 1 u (bv a))) (own_len _ _ _)) fun ⟨hlu, _⟩ => ?_
  have hlu' : a.length = u.len := by simpa [bv] using hlu
  refine wps_loop (fun st => ex fun i : Nat => pr (st = (i : Int) ∧ i ≤ b.length) * H * own 1 u (bv (zx a (b.take i)))) (fun st => (b.length - st).toNat) ?_ fun st => ?_
  · refine ent_ex 0 ?_
    rw [List.take_zero, zx_nil]
    refine ent_pick (Ent.trans (ent_pr ⟨rfl, by omega⟩) (Ent.of_eq rfl))
  · refine wps_ex fun i => ?_
    rw [star_assoc]
    refine wps_pr fun ⟨hi, hn⟩ => ?_
    refine wps_ite (fun hc => ?_) (fun hc => ?_)
    · have hlt' : i < b.length := by simp only [decide_eq_true_eq] at hc; omega
      obtain ⟨z1, z2⟩ := zx_step a b i hlt' (by omega)
      refine wps_rd i b[i] (Ent.trans (ent_left _ _) ht) hi (by simp [bv, List.getElem?_eq_getElem hlt']) ?_
      refine wps_rdS i a[i] hi (by rw [bv, List.getElem?_map, z1, List.getElem?_eq_getElem (by omega)]; rfl) ?_
      refine wps_wrS i hi (by omega) (wps_pure ?_)
      refine ent_prr (by rw [range_add1 hi (by omega)]; omega) (ent_ex (i + 1) ?_)
      refine ent_pickS ?_ (Ent.trans (ent_pr ⟨range_add1 hi (by omega), by omega⟩) (Ent.of_eq rfl))
      rw [← z2]; simp [bv, List.map_set]
    · have hie : i = b.length := by simp only [decide_eq_true_eq] at hc; omega
      rw [hie, List.take_length]
      exact wps_mapR (wps_pure (Ent.refl _))
theorem bits_Xor_spec {H : HP} {s t : Slc} {a b : List Int} (hs : Ent H (byt s a)) (ht : Ent H (byt t b)) (ha : a.length ≤ 1099511627776) (hb : b.length ≤ 1099511627776) : wps g H (bits_Xor s t) (fun u => H * own 1 u (bv (xorB a b))) := by
  unfold bits_Xor
  refine wps_fact (len_of hs) fun hls => ?_
  refine wps_fact (len_of ht) fun hlt => ?_
  by_cases h : a.length < b.length
  · refine wps_bindV (u := (t, s)) (wps_ite (fun _ => wps_pure (ent_prr rfl (Ent.refl _))) (fun h' => absurd (by simp; omega) h')) ?_
    rw [xorB, if_pos h]
    exact zx_spec ht hs (by omega) hb _ rfl
  · refine wps_bindV (u := (s, t)) (wps_ite (fun h' => absurd h' (by simp; omega)) (fun _ => wps_pure (ent_prr rfl (Ent.refl _)))) ?_
    rw [xorB, if_neg h]
    exact zx_spec hs ht (by omega) ha _ rfl
end Go.Proofs.Ytldmeimebebllaa
namespace Go.Proofs.Ytldmeimebebllaa
open Go.Mo
set_option linter.unusedVariables false
variable {g : Fr} {cv : CV}
def dg (n : Int) (j : Nat) : Int := n / (256 ^ j : Nat) % 256
theorem dg_rng (n : Int) (j : Nat) : 0 ≤ dg n j ∧ dg n j < 256 := by unfold dg; omega
theorem dg_eq {n : Int} (hn : 0 ≤ n) {j : Nat} (hj : j < 4) : IntKind.wrap .u8 (bShr .i64 n (w64 (8 * (j : Int)))) = dg n j := by
  have hw : w64 (8 * (j : Int)) = 8 * (j : Int) := w64_id (by omega) (by omega)
  rw [hw]
  have : ∀ k : Nat, k < 64 → n.fdiv (2 ^ k) = n / (2 ^ k) := fun k _ => by
    rw [Int.fdiv_eq_ediv_of_nonneg _ (Int.pow_nonneg (by decide))]
  have hmin : min (8 * (j : Int)).toNat IntKind.i64.bits = 8 * j := by
    have : IntKind.i64.bits = 64 := rfl
    rw [this]; omega
  unfold bShr dg
  rw [hmin, this _ (by omega)]
  have h2 : ((2 : Int) ^ (8 * j)) = ((256 ^ j : Nat) : Int) := by
    rw [Int.pow_mul]; simp
  rw [h2]
  simp [IntKind.wrap, IntKind.bits, IntKind.signed]
def putL (w : Nat) (n : Int) : List Int := (List.range w).map (dg n)
theorem putL_len (w : Nat) (n : Int) : (putL w n).length = w := by simp [putL]
theorem putL_byts (w : Nat) (n : Int) : Byts (putL w n) := fun x hx => by
  simp only [putL, List.mem_map] at hx
  obtain ⟨j, _, rfl⟩ := hx
  exact dg_rng n j
def fitsN (w : Nat) (n : Int) : Prop := 0 ≤ n ∧ n < (256 ^ w : Nat)
instance (w : Nat) (n : Int) : Decidable (fitsN w n) := by unfold fitsN; infer_instance
def putB (w : Nat) (n : Int) : List Int := if fitsN w n then putL w n else []
theorem shr_pos {n : Int} (hn : 0 ≤ n) {w : Nat} (hw : w ≤ 4) : decide (bShr .i64 n (w64 (8 * (w : Int))) > 0) = !decide (n < (256 ^ w : Nat)) := by
  have hw2 : w64 (8 * (w : Int)) = 8 * (w : Int) := w64_id (by omega) (by omega)
  rw [hw2]
  have hmin : min (8 * (w : Int)).toNat IntKind.i64.bits = 8 * w := by
    have : IntKind.i64.bits = 64 := rfl
    rw [this]; omega
  unfold bShr
  rw [hmin, Int.fdiv_eq_ediv_of_nonneg _ (Int.pow_nonneg (by decide))]
  have h2 : ((2 : Int) ^ (8 * w)) = ((256 ^ w : Nat) : Int) := by
    rw [Int.pow_mul]; simp
  rw [h2]
  have hp : (0 : Int) < ((256 ^ w : Nat) : Int) := by exact_mod_cast Nat.pow_pos (by decide)
  generalize ((256 ^ w : Nat) : Int) = M at *
  by_cases h : n < M
  · rw [decide_eq_true h, Int.ediv_eq_zero_of_lt hn h]; rfl
  · have : 1 ≤ n / M := Int.le_ediv_of_mul_le hp (by omega)
    have h3 : n / M > 0 := by omega
    simp [h, h3]
theorem bv_map_set {w i : Nat} (f f' : Nat → Int) (hi : i < w) (h : ∀ j, j ≠ i → f' j = f j) : (bv ((List.range w).map f)).set i (.int .u8 (f' i)) = bv ((List.range w).map f') := by
  apply List.ext_getElem?
  intro j
  simp only [bv, List.getElem?_set, List.getElem?_map, List.length_map, List.length_range]
  by_cases hj : i = j
  · subst hj; simp [hi]
  · rw [if_neg hj]
    by_cases hjw : j < w
    · rw [List.getElem?_range hjw]; simp [h j (fun e => hj e.symm)]
    · simp [List.getElem?_eq_none, Nat.le_of_not_lt hjw]
theorem zs_u8 (w : Nat) : zs [.int .u8 0] w = bv ((List.range w).map fun _ => 0) := by
  simp [zs, bv, Nat.mod_one]
theorem bits_Put_spec {H : HP} (w : Nat) (n : Int) (h1 : 1 ≤ w) (h4 : w ≤ 4) : wps g H (bits_Put w n) (fun s => H * own 1 s (bv (putB w n))) := by
  unfold bits_Put
  refine wps_val (v := false) (wps_ite (fun h => absurd h (by simp; omega)) (fun _ => wps_pure (ent_prr (by simp; omega) (Ent.refl _)))) ?_
  by_cases hn : 0 ≤ n
  rotate_left
  · have hf : ¬ fitsN w n := fun h => hn h.1
    rw [putB, if_neg hf]
    refine wps_val (v := true) (wps_ite (fun h => absurd h (by decide)) (fun _ => wps_pure (ent_prr (by simp; omega) (Ent.refl _)))) ?_
    refine wps_val (v := true) (wps_ite (fun _ => wps_pure (ent_val rfl)) (fun h => absurd rfl h)) ?_
    exact wps_ite (fun _ => wps_pure (ent_own0 (Ent.refl _))) (fun h => absurd rfl h)
  refine wps_val (v := false) (wps_ite (fun h => absurd h (by decide)) (fun _ => wps_pure (ent_prr (by simp; omega) (Ent.refl _)))) ?_
  refine wps_val (v := !decide (n < (256 ^ w : Nat))) (wps_ite (fun h => absurd h (by decide)) (fun _ => wps_assert (by rw [w64_id] <;> omega) (wps_pure (ent_prr (shr_pos hn h4) (Ent.refl _))))) ?_
  by_cases hm : n < (256 ^ w : Nat)
  rotate_left
  · have hf : ¬ fitsN w n := fun h => hm h.2
    rw [putB, if_neg hf, decide_eq_false hm]
    exact wps_ite (fun _ => wps_pure (ent_own0 (Ent.refl _))) (fun h => absurd rfl h)
  rw [show putB w n = putL w n from if_pos ⟨hn, hm⟩, decide_eq_true hm]
  refine wps_ite (fun h => absurd h (by decide)) (fun _ => ?_)
  refine wps_make w rfl (by omega) fun b => ?_
  refine wps_loop (fun st => ex fun i : Nat => pr (st = (i : Int) ∧ i ≤ w) * H * pc b (bv ((List.range w).map fun j => if j < i then dg n j else 0))) (fun st => (w - st).toNat) ?_ fun st => ?_
  · refine ent_ex 0 (ent_pickC ?_ (Ent.trans (ent_pr ⟨rfl, by omega⟩) (Ent.of_eq rfl)))
    rw [zs_u8]; simp
  · refine wps_ex fun i => ?_
    rw [star_assoc]
    refine wps_pr fun ⟨hi, hn2⟩ => ?_
    refine wps_ite (fun hc => ?_) (fun hc => ?_)
    · have hlt : i < w := by simp only [decide_eq_true_eq] at hc; omega
      refine wps_assert (by rw [w64_id] <;> omega) ?_
      refine wps_idx i rfl hi hlt ?_
      refine wps_st (by simp [bv]; omega) (wps_pure ?_)
      rw [hi, dg_eq hn (by omega)]
      refine ent_prr (by rw [range_add1 rfl (by omega)]; omega) (ent_ex (i + 1) (ent_pickC ?_ (Ent.trans (ent_pr ⟨range_add1 rfl (by omega), by omega⟩) (Ent.of_eq rfl))))
      rw [Nat.zero_add, Nat.mul_one]
      have := bv_map_set (w := w) (i := i) (fun j => if j < i then dg n j else 0) (fun j => if j < i + 1 then dg n j else 0) hlt (fun j hj => by
        have : j < i + 1 ↔ j < i := by omega
        simp [this])
      simpa using this
    · have hie : i = w := by simp only [decide_eq_true_eq] at hc; omega
      subst hie
      refine wps_mapR (wps_pure ?_)
      refine Ent.starr ?_
      have : (bv ((List.range i).map fun j => if j < i then dg n j else 0)) = bv (putL i n) := by
        unfold putL
        congr 1
        refine List.map_congr_left fun j hj => ?_
        rw [if_pos (by simpa using hj)]
      rw [this]
      exact pc_own (by simp [bv, putL])
end Go.Proofs.Ytldmeimebebllaa
namespace Go.Proofs.Ytldmeimebebllaa
open Go.Mo
set_option linter.unusedVariables false
variable {g : Fr} {cv : CV}
theorem bl (b : List Int) : (bv b).length = b.length := by simp [bv]
theorem ovw_at {cs new : List Value} {l : Nat} {p : List Value} (hp : cs.take l = p) (hl : l + new.length ≤ cs.length) : (ovw cs l new).take (l + new.length) = p ++ new := by
  subst hp
  rw [ovw, List.take_append_of_le_length (by simp; omega), List.take_of_length_le (by simp; omega)]
def padL (b : List Int) (n : Nat) : List Int := b ++ List.replicate (n - b.length) 0
theorem bits_Pad_spec {H : HP} {s : Slc} {b : List Int} (n : Nat) (hs : Ent H (byt s b)) (hn : n ≤ 65536) :
    wps g H (bits_Pad s n) (fun x => if b.length ≤ n then pr (x.2 = true) * H * own 1 x.1 (bv (padL b n)) else pr (x.2 = false) * H) := by
  unfold bits_Pad
  refine wps_fact (len_of hs) fun hl => ?_
  by_cases h : b.length ≤ n
  · simp only [h, if_true]
    refine wps_val (v := false) (wps_ite (fun h => absurd h (by simp; omega)) (fun _ => wps_pure (ent_prr (by simp; omega) (Ent.refl _)))) ?_
    refine wps_ite (fun h => absurd h (by decide)) (fun _ => ?_)
    refine wps_make n rfl (by omega) fun c => ?_
    refine wps_copyP (off := 0) (Ent.trans (ent_left _ _) hs) (by simp [bv, Value.oneCell']) (by simp [zs]) ?_
    refine wps_pure ?_
    rw [star_assoc]
    refine ent_prr rfl ?_
    refine Ent.starr ?_
    have hm : (bv b).take (min s.len n * 1) = bv b := List.take_of_length_le (by simp [bv]; omega)
    have e : ovw (zs [.int .u8 0] n) 0 ((bv b).take (min s.len n * 1)) = bv (padL b n) := by
      rw [hm, ovw, zs_u8]
      simp [padL, bv]
      apply List.ext_getElem?
      intro j
      simp [List.getElem?_map, List.getElem?_drop, List.getElem?_replicate]
      by_cases hj : j < n - b.length
      · rw [List.getElem?_range (by omega)]; simp [hj]
      · rw [List.getElem?_eq_none (by simp; omega)]; simp [hj]
    rw [e]
    exact pc_own (by simp [bv, padL]; omega)
  · simp only [h, if_false]
    refine wps_val (v := true) ?_ ?_
    · by_cases h2 : (n : Int) > 65536
      · exact absurd h2 (by omega)
      · exact wps_ite (fun h => absurd h (by simp; omega)) (fun _ => wps_pure (ent_prr (by simp; omega) (Ent.refl _)))
    · exact wps_ite (fun _ => wps_pure (ent_pr rfl)) (fun h => absurd rfl h)
theorem rsl_front {b n : Nat} {cs p : List Value} (hl : p.length = n) (hp : cs.take n = p) : Ent (pc b cs) (rsl 1 ⟨some ⟨b, 0, none⟩, n, n⟩ p) := by
  refine Ent.trans (pc_ro _ _) (ent_orr (ent_ex ⟨b, 0, none⟩ (ent_ex cs (ent_prr ⟨rfl, by simpa using hl, Nat.le_refl _, ?_⟩ (Ent.refl _)))))
  simpa using hp
theorem bytes_Join_spec {H : HP} {s : Slc} {sl : List Slc} {ls : List (List Int)} (hs : Ent H (rsl 1 s (sl.map vS))) (hq : Ent H (seqp sl fun i => ls.getD i [])) (hl : sl.length = ls.length) (h2 : 2 ≤ ls.length) (hN : ls.flatten.length ≤ 1099511627776) (hk : ls.length ≤ 1099511627776) :
    wps g H (bytes_Join s ⟨none, 0, 0⟩) (fun t => H * ex fun b => ex fun cs => pr (t = ⟨some ⟨b, 0, none⟩, ls.flatten.length, ls.flatten.length⟩ ∧ cs.take ls.flatten.length = bv ls.flatten) * pc b cs) := by
  unfold bytes_Join
  refine wps_fact (Ent.trans hs (rsl_len _ _ _)) fun hsl => ?_
  have hsl' : sl.length = s.len := by simpa using hsl
  have hpart : ∀ i (h : i < sl.length), Ent H (byt sl[i] (ls[i]'(by omega))) := fun i h o ho => by
    have := hq o ho i sl[i] (List.getElem?_eq_getElem h)
    simpa [List.getD_eq_getElem?_getD, List.getElem?_eq_getElem (show i < ls.length by omega)] using this
  refine wps_fact (cap_of hs) fun hcap => ?_
  have hstep : ∀ i (h : i < ls.length), (ls.take (i + 1)).flatten = (ls.take i).flatten ++ ls[i] := fun i h => by
    rw [List.take_add_one, List.getElem?_eq_getElem h, List.flatten_append]; simp
  have hle : ∀ i, (ls.take i).flatten.length ≤ ls.flatten.length := fun i => by
    have : ls.flatten = (ls.take i).flatten ++ (ls.drop i).flatten := by rw [← List.flatten_append, List.take_append_drop]
    rw [this, List.length_append]; omega
  refine wps_ite (fun h => absurd h (by simp; omega)) (fun _ => ?_)
  refine wps_ite (fun h => absurd h (by simp; omega)) (fun _ => ?_)
  refine wps_bindV (u := 0) (wps_ite (fun h => absurd h (by decide)) (fun _ => wps_pure (ent_prr rfl (Ent.refl _)))) ?_
  refine wps_loop (fun st => ex fun i : Nat => pr (st.2 = (i : Int) ∧ i ≤ ls.length ∧ st.1 = (((ls.take i).flatten.length : Nat) : Int)) * H) (fun st => (ls.length - st.2).toNat) (ent_ex 0 (ent_prr ⟨rfl, by omega, rfl⟩ (Ent.refl _))) fun st => ?_
  refine wps_ex fun i => wps_pr fun ⟨hi, hin, hsum⟩ => ?_
  have hlei := hle i
  refine wps_ite (fun hc => ?_) (fun hc => ?_)
  · have hlt : i < sl.length := by simp only [decide_eq_true_eq] at hc; omega
    have hsi := hstep i (by omega)
    have hli := hle (i + 1)
    have hlp : (ls.take (i + 1)).flatten.length = (ls.take i).flatten.length + (ls[i]'(by omega)).length := by rw [hsi, List.length_append]
    refine wps_fact (len_of (hpart i hlt)) fun hpl => ?_
    refine wps_rd i sl[i] hs hi (by simp [List.getElem?_eq_getElem hlt]) ?_
    refine wps_bindV (u := ()) (wps_ite (fun h => by simp only [decide_eq_true_eq] at h; rw [hsum, w64_id] at h <;> omega) (fun _ => wps_pure (ent_prr rfl (Ent.refl _)))) ?_
    refine wps_pure (ent_prr (by rw [range_add1 hi (by omega)]; (try dsimp only); omega) (ent_ex (i + 1) (ent_prr ⟨range_add1 hi (by omega), by omega, ?_⟩ (Ent.refl _))))
    rw [hsum, hlp, ← hpl, w64_id] <;> omega
  have hie : i = ls.length := by simp only [decide_eq_true_eq] at hc; omega
  rw [hie, List.take_length] at hsum
  generalize hNN : ls.flatten.length = N at *
  refine wps_mapR ?_
  refine wps_noZero N hsum (by omega) fun b cs0 hcs => ?_
  refine wps_slice3 N N hsum hsum (Nat.le_refl _) hcs ?_
  have h0 : 0 < sl.length := by omega
  have hls0 : 0 < ls.length := by omega
  refine wps_rd 0 sl[0] (Ent.trans (ent_left _ _) hs) rfl (by simp [List.getElem?_eq_getElem h0]) ?_
  have hl0 := hle 1
  have hs0 : (ls.take 1).flatten = ls[0]'(by omega) := by have := hstep 0 (by omega); simpa using this
  rw [hs0] at hl0
  refine wps_fact (Ent.trans (ent_left _ _) (len_of (hpart 0 h0))) fun hp0 => ?_
  refine wps_copyP (off := 0) (Ent.trans (ent_left _ _) (hpart 0 h0)) (by simp [bv, Value.oneCell']) (by omega) ?_
  have hm0 : (bv (ls[0]'(by omega))).take (min sl[0].len N * 1) = bv (ls[0]'(by omega)) := List.take_of_length_le (by simp [bv]; omega)
  rw [hm0]
  refine wps_slice 1 s.len rfl rfl (by omega) (by omega) ?_
  have hsub := rsl_sub (z := 1) (s := s) (cs := sl.map vS) (l := 1) (h := s.len) (by omega) (Nat.le_refl _)
  refine wps_loop (fun st => ex fun i : Nat => ex fun cs => pr (st.2 = (i : Int) ∧ i + 1 ≤ ls.length ∧ st.1 = (((ls.take (i + 1)).flatten.length : Nat) : Int) ∧ N ≤ cs.length ∧ cs.take (ls.take (i + 1)).flatten.length = bv (ls.take (i + 1)).flatten) * H * pc b cs) (fun st => (ls.length - st.2).toNat) ?_ fun st => ?_
  · refine ent_ex 0 (ent_ex (ovw cs0 0 (bv (ls[0]'hls0))) (ent_pick ?_))
    refine Ent.trans (ent_pr ⟨rfl, by omega, ?_, ?_, ?_⟩) (Ent.of_eq rfl)
    · rw [Nat.zero_add, hs0]; (try dsimp only); omega
    · rw [ovw_len (by simp [bv]; omega)]; exact hcs
    · rw [Nat.zero_add, hs0]
      have := ovw_at (cs := cs0) (new := bv (ls[0]'(by omega))) (l := 0) (p := []) (by simp) (by simp [bv]; omega)
      simpa [bv] using this
  refine wps_ex fun i => wps_ex fun cs => ?_
  rw [star_assoc]
  refine wps_pr fun ⟨hi, hin, hbp, hcl, hct⟩ => ?_
  have hlei := hle (i + 1)
  refine wps_ite (fun hc => ?_) (fun hc => ?_)
  · have hc1 := of_decide_eq_true hc
    rw [subS_len] at hc1
    have hlt : i + 1 < sl.length := by omega
    have hsi := hstep (i + 1) (by omega)
    have hli := hle (i + 1 + 1)
    have hlp : (ls.take (i + 1 + 1)).flatten.length = (ls.take (i + 1)).flatten.length + (ls[i + 1]'(by omega)).length := by rw [hsi, List.length_append]
    refine wps_fact (Ent.trans (ent_left _ _) (len_of (hpart (i + 1) hlt))) fun hpl => ?_
    refine wps_rd i sl[i + 1] (Ent.trans (ent_left _ _) (Ent.trans hs hsub)) hi ?_ ?_
    · rw [List.getElem?_take, if_pos (by omega), List.getElem?_drop, List.getElem?_map, show 1 * 1 + i = i + 1 by omega, List.getElem?_eq_getElem hlt]; rfl
    refine wps_slice (ls.take (i + 1)).flatten.length N hbp rfl hlei (Nat.le_refl _) ?_
    refine wps_copyT (new := []) (fun o ho => .inl ⟨rfl, rfl⟩) (by simp) (by omega) hlei (Nat.le_refl _) ?_
    simp only [List.take_nil, ovw_nil, Nat.zero_min]
    have hw : w64 (st.1 + ((0 : Nat) : Int)) = st.1 := by rw [w64_id] <;> omega
    rw [hw]
    refine wps_slice (ls.take (i + 1)).flatten.length N hbp rfl hlei (Nat.le_refl _) ?_
    refine wps_copyT (Ent.trans (ent_left _ _) (hpart (i + 1) hlt)) (by simp [bv, Value.oneCell']) (by omega) hlei (Nat.le_refl _) ?_
    have hm : min sl[i + 1].len (N - (ls.take (i + 1)).flatten.length) = (ls[i + 1]'(by omega)).length := by omega
    have hm2 : (bv (ls[i + 1]'(by omega))).take (ls[i + 1]'(by omega)).length = bv (ls[i + 1]'(by omega)) := List.take_of_length_le (by simp [bv])
    rw [hm, hm2]
    have hls1 : i + 1 < ls.length := by omega
    refine wps_pure (ent_prr (by rw [range_add1 hi (by omega)]; (try dsimp only); omega) (ent_ex (i + 1) (ent_ex (ovw cs (ls.take (i + 1)).flatten.length (bv (ls[i + 1]'hls1))) (ent_pick ?_))))
    refine Ent.trans (ent_pr ⟨range_add1 hi (by omega), by omega, ?_, ?_, ?_⟩) (Ent.of_eq rfl)
    · rw [hlp, hbp, w64_id] <;> omega
    · rw [ovw_len (by rw [bl]; omega)]; exact hcl
    · have := ovw_at hct (new := bv (ls[i + 1]'(by omega))) (by rw [bl]; omega)
      rw [bl] at this
      rw [hlp, hsi, this]
      simp [bv]
  · have hc1 : ¬ (st.2 < ((subS 1 s 1 s.len).len : Nat)) := fun h => hc (decide_eq_true h)
    rw [subS_len] at hc1
    have hie2 : i + 1 = ls.length := by omega
    rw [hie2, List.take_length] at hct
    refine wps_mapR (wps_pure ?_)
    refine Ent.starr (ent_ex b (ent_ex cs (ent_prr ⟨rfl, ?_⟩ (Ent.refl _))))
    rw [← hNN]; exact hct
end Go.Proofs.Ytldmeimebebllaa
namespace Go.Proofs.Ytldmeimebebllaa
open Go.Mo
set_option linter.unusedVariables false
variable {g : Fr} {cv : CV}
def encL (seq owner index : Int) (data : List Int) : List Int := putL 4 seq ++ putL 2 owner ++ putL 2 index ++ padL data 56
def encOk (seq owner index : Int) (data : List Int) : Prop := fitsN 4 seq ∧ fitsN 2 owner ∧ fitsN 2 index ∧ data.length ≤ 56
instance (seq owner index : Int) (data : List Int) : Decidable (encOk seq owner index data) := by unfold encOk; infer_instance
theorem encL_len {seq owner index : Int} {data : List Int} (h : data.length ≤ 56) : (encL seq owner index data).length = 64 := by
  simp [encL, putL_len, padL]; omega
theorem padL_byts {b : List Int} (h : Byts b) (n : Nat) : Byts (padL b n) := h.app (Byts.rep _)
theorem encL_byts {seq owner index : Int} {data : List Int} (h : Byts data) : Byts (encL seq owner index data) := (((putL_byts 4 seq).app (putL_byts 2 owner)).app (putL_byts 2 index)).app (padL_byts h 56)
theorem putB_len (w : Nat) (n : Int) : (putB w n).length = if fitsN w n then w else 0 := by
  unfold putB; split <;> simp [putL_len]
theorem sector_Encode_spec {H : HP} {s : Slc} {data : List Int} (seq owner index : Int) (hs : Ent H (byt s data)) :
    wps g H (sector_Encode (seq, owner, index) s) (fun x => if encOk seq owner index data then pr (x.2 = true) * H * own 1 x.1 (bv (encL seq owner index data)) else pr (x.2 = false) * H) := by
  unfold sector_Encode
  refine wps_fact (len_of hs) fun hl => ?_
  refine wps_alloc fun c => ?_
  refine wps_region (pc c [.int .i64 seq, .int .i64 owner, .int .i64 index]) ent_pick1 ?_
  refine wps_ldI seq (by rfl) ?_
  refine wps_ldI owner (by rfl) ?_
  refine wps_ldI index (by rfl) ?_
  refine wps_step1 (bits_Put_spec 4 seq (by decide) (by decide)) fun a1 => ?_
  refine wps_step1 (bits_Put_spec 2 owner (by decide) (by decide)) fun a2 => ?_
  refine wps_step1 (bits_Put_spec 2 index (by decide) (by decide)) fun a3 => ?_
  refine wps_stepAlloc fun d => ?_
  have hj := bytes_Join_spec (g := g) (H := H * pc c [.int .i64 seq, .int .i64 owner, .int .i64 index] * own 1 a1 (bv (putB 4 seq)) * own 1 a2 (bv (putB 2 owner)) * own 1 a3 (bv (putB 2 index)) * pc d [vS a1, vS a2, vS a3]) (s := ⟨some ⟨d, 0, none⟩, 3, 3⟩) (sl := [a1, a2, a3]) (ls := [putB 4 seq, putB 2 owner, putB 2 index])
    (rsl_pc rfl) (fun o ho k t hk => by
      match k with
      | 0 => obtain rfl : a1 = t := by simpa using hk
             exact own_rsl _ _ _ o (ent_pick1 (A := own 1 a1 (bv (putB 4 seq))) o ho)
      | 1 => obtain rfl : a2 = t := by simpa using hk
             exact own_rsl _ _ _ o (ent_pick1 (A := own 1 a2 (bv (putB 2 owner))) o ho)
      | 2 => obtain rfl : a3 = t := by simpa using hk
             exact own_rsl _ _ _ o (ent_pick1 (A := own 1 a3 (bv (putB 2 index))) o ho)
      | k + 3 => simp at hk) rfl (by simp) (by simp [putB_len]; split <;> split <;> split <;> omega) (by simp)
  refine wps_step1 hj fun hd => ?_
  refine wps_exr fun b => wps_exr fun cs => ?_
  refine wps_prP fun ⟨hh, hct⟩ => ?_
  have hfl : [putB 4 seq, putB 2 owner, putB 2 index].flatten = putB 4 seq ++ putB 2 owner ++ putB 2 index := by simp
  rw [hfl] at hh hct
  generalize hP : putB 4 seq ++ putB 2 owner ++ putB 2 index = P at *
  have hPl : P.length = (if fitsN 4 seq then 4 else 0) + (if fitsN 2 owner then 2 else 0) + (if fitsN 2 index then 2 else 0) := by
    rw [← hP]; simp [putB_len]; omega
  subst hh
  refine wps_pre (H' := H * pc b cs) ?_ ?_
  · repeat first | (with_reducible exact ent_drop) | (with_reducible refine ent_pick ?_)
  refine wps_bind (bits_Pad_spec 56 (Ent.trans (ent_left _ _) hs) (by decide)) fun x => ?_
  by_cases hd : data.length ≤ 56
  rotate_left
  · have hno : ¬ encOk seq owner index data := fun h => hd h.2.2.2
    simp only [hd, hno, if_false]
    refine wps_pr fun hx => ?_
    refine wps_val (v := true) (wps_ite (fun _ => wps_pure (ent_val rfl)) (fun h => absurd (by simp [hx]) h)) ?_
    exact wps_ite (fun _ => wps_pure (ent_prr rfl (ent_left _ _))) (fun h => absurd rfl h)
  simp only [hd, if_true]
  rw [star_assoc]
  refine wps_pr fun hx => ?_
  by_cases h8 : P.length = 8
  rotate_left
  · have hno : ¬ encOk seq owner index data := fun h => h8 (by rw [hPl, if_pos h.1, if_pos h.2.1, if_pos h.2.2.1])
    simp only [hno, if_false]
    refine wps_val (v := true) (wps_ite (fun _ => wps_pure (ent_val rfl)) (fun h => wps_pure (ent_prr (by simp; omega) (Ent.refl _)))) ?_
    exact wps_ite (fun _ => wps_pure (ent_prr rfl (Ent.trans (ent_left _ _) (ent_left _ _)))) (fun h => absurd rfl h)
  have hok : encOk seq owner index data := by
    rw [hPl] at h8
    refine ⟨?_, ?_, ?_, hd⟩
    · by_cases h : fitsN 4 seq
      · exact h
      · rw [if_neg h] at h8; split at h8 <;> split at h8 <;> omega
    · by_cases h : fitsN 2 owner
      · exact h
      · rw [if_neg h] at h8; split at h8 <;> split at h8 <;> omega
    · by_cases h : fitsN 2 index
      · exact h
      · rw [if_neg h] at h8; split at h8 <;> split at h8 <;> omega
  simp only [hok, if_true]
  refine wps_val (v := false) (wps_ite (fun h => absurd h (by simp [hx])) (fun h => wps_pure (ent_prr (by simp; omega) (Ent.refl _)))) ?_
  refine wps_ite (fun h => absurd h (by decide)) (fun _ => ?_)
  refine wps_fact (Ent.trans (ent_right _ _) (own_len _ _ _)) fun ⟨hxl, _⟩ => ?_
  have hxl2 : x.1.len = 56 := by rw [bl] at hxl; simp [padL] at hxl; omega
  refine wps_appendG (old := bv P) (new := bv (padL data 56)) 1 rfl (Ent.trans (ent_right _ _) (own_rsl _ _ _)) (Ent.trans (ent_left _ _) (Ent.trans (ent_right _ _) (rsl_front (by rw [bl]) hct))) (by (try dsimp only); omega) (by (try dsimp only); omega) (by (try dsimp only); omega) fun s' hs' => wps_pure ?_
  have he : bv P ++ bv (padL data 56) = bv (encL seq owner index data) := by
    rw [← hP, putB, putB, putB, if_pos hok.1, if_pos hok.2.1, if_pos hok.2.2.1]
    simp [bv, encL]
  rw [he]
  refine Ent.trans (Ent.starl (Ent.trans (ent_left _ _) (ent_left _ _))) ?_
  rw [star_assoc]
  exact ent_pr rfl
def getL : List Int → Int
  | [] => 0
  | b :: l => b + 256 * getL l
theorem getL_app : ∀ (l : List Int) (c : Int), getL (l ++ [c]) = getL l + (256 ^ l.length : Nat) * c
  | [], c => by simp [getL]
  | b :: l, c => by
    simp only [List.cons_append, getL, getL_app l c, List.length_cons, Nat.pow_succ]
    rw [Int.natCast_mul]
    generalize ((256 ^ l.length : Nat) : Int) = M
    have : M * ((256 : Nat) : Int) * c = 256 * (M * c) := by rw [Int.mul_comm M, Int.mul_assoc]; rfl
    omega
theorem getL_rng : ∀ {l : List Int}, Byts l → 0 ≤ getL l ∧ getL l < (256 ^ l.length : Nat)
  | [], _ => by simp [getL]
  | b :: l, h => by
    have h1 := h b (by simp)
    have h2 := getL_rng (l := l) fun x hx => h x (by simp [hx])
    simp only [getL, List.length_cons, Nat.pow_succ]
    rw [Int.natCast_mul]
    generalize ((256 ^ l.length : Nat) : Int) = M at *
    omega
theorem or_shl {n c : Int} {i : Nat} (hi : i < 4) (h0 : 0 ≤ n ∧ n < (256 ^ i : Nat)) (hc : 0 ≤ c ∧ c < 256) : bOr .i64 n (bShl .i64 (w64 c) (w64 (8 * (i : Int)))) = n + (256 ^ i : Nat) * c := by
  rw [w64_id (n := c) (by omega) (by omega), w64_id (n := 8 * (i : Int)) (by omega) (by omega)]
  obtain ⟨a, rfl⟩ : ∃ a : Nat, n = (a : Int) := ⟨n.toNat, by omega⟩
  obtain ⟨b, rfl⟩ : ∃ b : Nat, c = (b : Int) := ⟨c.toNat, by omega⟩
  have hmin : min (8 * (i : Int)).toNat IntKind.i64.bits = 8 * i := by
    have : IntKind.i64.bits = 64 := rfl
    rw [this]; omega
  have h256 : (256 : Nat) ^ i = 2 ^ (8 * i) := by rw [Nat.pow_mul]
  have hle : (256 : Nat) ^ i ≤ 256 ^ 3 := Nat.pow_le_pow_right (by decide) (by omega)
  have hb : b * 256 ^ i ≤ 255 * 256 ^ 3 := Nat.mul_le_mul (by omega) hle
  have hsh : bShl .i64 (b : Int) (8 * (i : Int)) = ((b * 256 ^ i : Nat) : Int) := by
    unfold bShl
    rw [hmin]
    have h2 : (b : Int) * 2 ^ (8 * i) = ((b * 256 ^ i : Nat) : Int) := by rw [h256, Int.natCast_mul, Int.natCast_pow]; rfl
    rw [h2]
    exact wrap_i64 (by omega) (by omega)
  rw [hsh]
  have ha : a < 256 ^ i := by exact_mod_cast h0.2
  unfold bOr
  have e1 : (BitVec.ofInt IntKind.i64.bits (a : Int)).toNat = a := by
    show (BitVec.ofInt 64 _).toNat = _
    rw [BitVec.toNat_ofInt]; omega
  have e2 : (BitVec.ofInt IntKind.i64.bits ((b * 256 ^ i : Nat) : Int)).toNat = b * 256 ^ i := by
    show (BitVec.ofInt 64 _).toNat = _
    rw [BitVec.toNat_ofInt]; omega
  rw [BitVec.toNat_or, e1, e2]
  have e3 : a ||| b * 256 ^ i = a + 256 ^ i * b := by
    rw [Nat.or_comm, Nat.mul_comm, h256, ← Nat.two_pow_add_eq_or_of_lt (by rw [← h256]; exact ha)]; omega
  rw [e3, wrap_i64]
  · rw [Int.natCast_add, Int.natCast_mul]
  · omega
  · rw [Nat.mul_comm] at hb
    have : (256 ^ i : Nat) * b + a < 4294967296 := by omega
    omega
def getB (b : List Int) (at' w : Nat) : Int := getL ((b.drop at').take w)
theorem bits_Get_val {H : HP} {s : Slc} {b : List Int} (p w : Nat) (hs : Ent H (byt s b)) (hb : Byts b) (h1 : 1 ≤ w) (h4 : w ≤ 4) (hp : p + w ≤ b.length) (hl : b.length ≤ 1099511627776) : Val g H (bits_Get s p w) (getB b p w, true) := by
  unfold bits_Get
  refine wps_fact (len_of hs) fun hls => ?_
  refine wps_fact (cap_of hs) fun hcs => ?_
  refine wps_val (v := false) (wps_ite (fun h => absurd h (by simp; omega)) (fun _ => wps_pure (ent_prr (by simp <;> omega) (Ent.refl _)))) ?_
  refine wps_val (v := false) (wps_ite (fun h => absurd h (by decide)) (fun _ => wps_pure (ent_prr (by simp <;> omega) (Ent.refl _)))) ?_
  refine wps_val (v := false) (wps_ite (fun h => absurd h (by decide)) (fun _ => wps_pure (ent_prr (by simp <;> omega) (Ent.refl _)))) ?_
  refine wps_val (v := false) (wps_ite (fun h => absurd h (by decide)) (fun _ => wps_pure (ent_prr (decide_eq_false (by rw [w64_id] <;> omega)) (Ent.refl _)))) ?_
  refine wps_ite (fun h => absurd h (by decide)) (fun _ => ?_)
  refine wps_slice p (p + w) rfl (by rw [show ((some (w64 ((p : Int) + (w : Int)))).getD (s.len : Int)) = w64 ((p : Int) + w) from rfl, w64_id] <;> omega) (by omega) (by omega) ?_
  have hsub : Ent H (byt (subS 1 s p (p + w)) ((b.drop p).take w)) := by
    have := Ent.trans hs (byt_sub (l := p) (h := p + w) (by omega) (by omega))
    rwa [show p + w - p = w by omega] at this
  have hsl : (subS 1 s p (p + w)).len = w := by rw [subS_len]; omega
  generalize subS 1 s p (p + w) = t at *
  have hxl : ((b.drop p).take w).length = w := by simp; omega
  have hxb : Byts ((b.drop p).take w) := (hb.drop p).take w
  unfold getB
  generalize (b.drop p).take w = x at *
  refine wps_loop (fun st => ex fun i : Nat => pr (st.2 = (i : Int) ∧ i ≤ w ∧ st.1 = getL (x.take i)) * H) (fun st => (w - st.2).toNat) (ent_ex 0 (ent_prr ⟨rfl, by omega, by simp [getL]⟩ (Ent.refl _))) fun st => ?_
  refine wps_ex fun i => wps_pr fun ⟨hi, hin, hv⟩ => ?_
  refine wps_ite (fun hc => ?_) (fun hc => ?_)
  · have hc1 := of_decide_eq_true hc
    rw [hsl] at hc1
    have hlt : i < x.length := by omega
    refine wps_rd i x[i] hsub hi (by simp [bv, List.getElem?_eq_getElem hlt]) ?_
    refine wps_assert (by rw [hi, w64_id] <;> omega) ?_
    have hr := getL_rng (hxb.take i)
    rw [List.length_take, Nat.min_eq_left (by omega)] at hr
    refine wps_pure (ent_prr (by rw [range_add1 hi (by omega)]; (try dsimp only); omega) (ent_ex (i + 1) (ent_prr ⟨range_add1 hi (by omega), by omega, ?_⟩ (Ent.refl _))))
    rw [hv, hi, or_shl (by omega) hr (hxb.get hlt), List.take_add_one, List.getElem?_eq_getElem hlt]
    show _ = getL (x.take i ++ [x[i]])
    rw [getL_app, List.length_take, Nat.min_eq_left (by omega)]
  · have hie : i = w := by
      have hc1 : ¬ (st.2 < ((t.len : Nat) : Int)) := fun h => hc (decide_eq_true h)
      rw [hsl] at hc1; omega
    rw [hie, List.take_of_length_le (by omega)] at hv
    refine wps_mapR (wps_pure (ent_prr ?_ (Ent.refl _)))
    rw [hv]
end Go.Proofs.Ytldmeimebebllaa
namespace Go.Proofs.Ytldmeimebebllaa
open Go.Mo
set_option linter.unusedVariables false
variable {g : Fr} {cv : CV}
def headOf (b : List Int) : G3 := if b.length = 64 then (getB b 0 4, getB b 4 2, getB b 6 2) else (0, 0, 0)
def payOf (b : List Int) : List Int := if b.length = 64 then b.drop 8 else []
theorem sector_Decode_spec {H : HP} {s : Slc} {b : List Int} (hs : Ent H (byt s b)) (hb : Byts b) (hl : b.length ≤ 1099511627776) :
    wps g H (sector_Decode s) (fun x => pr (x.1 = headOf b ∧ x.2.2 = decide (b.length = 64)) * H * own 1 x.2.1 (bv (payOf b))) := by
  unfold sector_Decode
  refine wps_fact (len_of hs) fun hls => ?_
  refine wps_fact (cap_of hs) fun hcs => ?_
  refine wps_alloc fun c => ?_
  by_cases h : b.length = 64
  rotate_left
  · refine wps_ite (fun _ => ?_) (fun h' => absurd (by simp; omega) h')
    refine wps_stA (by simp) (by simp [Value.oneCell']) ?_
    refine wps_ldG 0 0 0 (by rfl) (wps_pure ?_)
    rw [payOf, if_neg h, headOf, if_neg h]
    refine ent_own0 ?_
    refine Ent.trans (ent_left _ _) (ent_pr ?_)
    simp [h]
  refine wps_ite (fun h' => absurd h' (by simp; omega)) (fun _ => ?_)
  refine wps_alloc fun d => ?_
  have hH : Ent (H * pc c [.int .i64 0, .int .i64 0, .int .i64 0] * pc d [.int .i64 0, .int .i64 0, .int .i64 0]) (byt s b) := Ent.trans (ent_left _ _) (Ent.trans (ent_left _ _) hs)
  refine wps_val (bits_Get_val 0 4 hH hb (by decide) (by decide) (by omega) hl) ?_
  refine wps_st (by simp) ?_
  have hH : ∀ cs, Ent (H * pc c [.int .i64 0, .int .i64 0, .int .i64 0] * pc d cs) (byt s b) := fun cs => Ent.trans (ent_left _ _) (Ent.trans (ent_left _ _) hs)
  refine wps_val (bits_Get_val 4 2 (hH _) hb (by decide) (by decide) (by omega) hl) ?_
  refine wps_st (by simp) ?_
  refine wps_val (bits_Get_val 6 2 (hH _) hb (by decide) (by decide) (by omega) hl) ?_
  refine wps_st (by simp) ?_
  refine wps_eq (H' := H * pc c [.int .i64 0, .int .i64 0, .int .i64 0] * pc d [.int .i64 (getB b 0 4), .int .i64 (getB b 4 2), .int .i64 (getB b 6 2)]) rfl ?_
  refine wps_regionH ?_
  refine wps_ldGI (getB b 0 4) (getB b 4 2) (getB b 6 2) (by rfl) ?_
  refine wps_slice 8 s.len rfl rfl (by omega) hcs ?_
  refine wps_step1 (bytes_Clone_spec (Ent.trans (hH _) (byt_drop hls (by omega))) (by simp; omega)) fun t => ?_
  refine wps_stA (by simp) (by simp [Value.oneCell']) ?_
  refine wps_ldG (getB b 0 4) (getB b 4 2) (getB b 6 2) (by rfl) (wps_pure ?_)
  rw [payOf, if_pos h, headOf, if_pos h]
  refine ent_pick ?_
  refine Ent.trans (ent_left _ _) (Ent.trans (ent_left _ _) (ent_pr ?_))
  simp [h]
def parOk (ls : List (List Int)) : Prop := ls ≠ [] ∧ ∀ b ∈ ls, b.length = 64 ∧ b.take 4 = (ls.headD []).take 4
instance (ls : List (List Int)) : Decidable (parOk ls) := by unfold parOk; infer_instance
def parSum (ls : List (List Int)) : List Int := ls.foldl (fun acc b => xorB acc (b.drop 4)) []
def parL (ls : List (List Int)) : Option (List Int) := if parOk ls then some ((ls.headD []).take 4 ++ parSum ls) else none
theorem parSum_snoc (ls : List (List Int)) (b : List Int) : parSum (ls ++ [b]) = xorB (parSum ls) (b.drop 4) := by simp [parSum]
theorem parSum_len : ∀ {ls : List (List Int)} (n : Nat), (∀ i (h : i < n), i < ls.length → (ls[i]?.getD []).length = 64) → n ≤ ls.length → (parSum (ls.take n)).length = if n = 0 then 0 else 60
  | ls, 0, _, _ => by simp [parSum]
  | ls, n + 1, h, hn => by
    have ih := parSum_len (ls := ls) n (fun i hi => h i (by omega)) (by omega)
    have hb := h n (by omega) (by omega)
    rw [List.getElem?_eq_getElem (by omega)] at hb
    simp only [Option.getD_some] at hb
    rw [List.take_add_one, List.getElem?_eq_getElem (by omega)]
    show (parSum (ls.take n ++ [ls[n]'(by omega)])).length = _
    rw [parSum_snoc, xorB]
    have hd : ((ls[n]'(by omega)).drop 4).length = 60 := by simp; omega
    rw [if_neg (show ¬ n + 1 = 0 by omega)]
    split
    · rw [zx_len, hd]
    · rename_i hx
      rw [zx_len, ih]
      rw [ih, hd] at hx
      split at hx
      · omega
      · rename_i h0; rw [if_neg h0]
theorem sector_Parity_spec {H : HP} {s : Slc} {sl : List Slc} {ls : List (List Int)} (hs : Ent H (rsl 1 s (sl.map vS))) (hq : Ent H (seqp sl fun i => ls.getD i [])) (hl : sl.length = ls.length) (hk : ls.length ≤ 1099511627776) (hb : ∀ b ∈ ls, Byts b ∧ b.length ≤ 1099511627776) :
    wps g H (sector_Parity s) (fun x => pr (x.2 = (parL ls).isSome) * H * own 1 x.1 (bv ((parL ls).getD []))) := by
  unfold sector_Parity
  refine wps_fact (Ent.trans hs (rsl_len _ _ _)) fun hsl => ?_
  have hsl' : sl.length = s.len := by simpa using hsl
  have hpart : ∀ i (h : i < sl.length), Ent H (byt sl[i] (ls[i]'(by omega))) := fun i h o ho => by
    have := hq o ho i sl[i] (List.getElem?_eq_getElem h)
    simpa [List.getD_eq_getElem?_getD, List.getElem?_eq_getElem (show i < ls.length by omega)] using this
  have hbad : ¬ parOk ls → ∀ A : HP, Ent (H * A) (pr (false = (parL ls).isSome) * H * own 1 ⟨none, 0, 0⟩ (bv ((parL ls).getD []))) := fun h A => by
    rw [parL, if_neg h]
    exact ent_own0 (Ent.trans (ent_left _ _) (ent_pr rfl))
  have hbad0 : ¬ parOk ls → Ent H (pr (false = (parL ls).isSome) * H * own 1 ⟨none, 0, 0⟩ (bv ((parL ls).getD []))) := fun h => by
    rw [parL, if_neg h]
    exact ent_own0 (ent_pr rfl)
  by_cases h0 : ls.length = 0
  · have hno : ¬ parOk ls := fun h => h.1 (List.eq_nil_of_length_eq_zero h0)
    refine wps_val (v := true) (wps_ite (fun _ => wps_pure (ent_val rfl)) (fun h => absurd (by simp; omega) h)) ?_
    exact wps_ite (fun _ => wps_pure (hbad0 hno)) (fun h => absurd rfl h)
  have hz : 0 < sl.length := by omega
  have hzl : 0 < ls.length := by omega
  have hhead : ls.headD [] = ls[0] := by
    cases ls with
    | nil => simp at hzl
    | cons a l => rfl
  refine wps_fact (len_of (hpart 0 hz)) fun hl0 => ?_
  refine wps_fact (cap_of (hpart 0 hz)) fun hc0 => ?_
  refine wps_val (v := ((sl[0].len : Nat) : Int) != 64) (wps_ite (fun h => absurd h (by simp; omega)) (fun _ => wps_rd 0 sl[0] hs rfl (by simp [List.getElem?_eq_getElem hz]) (wps_pure (ent_val rfl)))) ?_
  by_cases h64 : ls[0].length = 64
  rotate_left
  · have hno : ¬ parOk ls := fun h => h64 (h.2 _ (List.getElem_mem hzl)).1
    exact wps_ite (fun _ => wps_pure (hbad0 hno)) (fun h => absurd (by simp; omega) h)
  refine wps_ite (fun h => absurd h (by simp; omega)) (fun _ => ?_)
  refine wps_rd 0 sl[0] hs rfl (by simp [List.getElem?_eq_getElem hz]) ?_
  refine wps_slice 0 4 rfl rfl (by omega) (by omega) ?_
  have hsq : Ent H (byt (subS 1 sl[0] 0 4) (ls[0].take 4)) := Ent.trans (hpart 0 hz) (byt_take (by omega))
  have hb0 := hb _ (List.getElem_mem hzl)
  generalize subS 1 sl[0] 0 4 = q at *
  refine wps_loop (fun st => ex fun i : Nat => pr (st.2 = (i : Int) ∧ i ≤ ls.length ∧ ∀ j (h : j < ls.length), j < i → ls[j].length = 64 ∧ ls[j].take 4 = ls[0].take 4) * (H * own 1 st.1 (bv (parSum (ls.take i))))) (fun st => (ls.length - st.2).toNat) ?_ fun st => ?_
  · exact ent_ex 0 (ent_prr ⟨rfl, by omega, fun j _ h => by omega⟩ (ent_own0 (Ent.refl _)))
  refine wps_ex fun i => wps_pr fun ⟨hi, hin, hall⟩ => ?_
  refine wps_ite (fun hc => ?_) (fun hc => ?_)
  · have hc1 := of_decide_eq_true hc
    have hlt : i < sl.length := by omega
    have hltl : i < ls.length := by omega
    have hbi := hb _ (List.getElem_mem hltl)
    have hno : (ls[i].length = 64 ∧ ls[i].take 4 = ls[0].take 4 → False) → ¬ parOk ls := fun h hp => h (by have := hp.2 _ (List.getElem_mem hltl); rwa [hhead] at this)
    refine wps_fact (Ent.trans (ent_left _ _) (len_of (hpart i hlt))) fun hpl => ?_
    refine wps_fact (Ent.trans (ent_left _ _) (cap_of (hpart i hlt))) fun hpc => ?_
    refine wps_rd i sl[i] (Ent.trans (ent_left _ _) hs) hi (by simp [List.getElem?_eq_getElem hlt]) ?_
    by_cases h6 : ls[i].length = 64
    rotate_left
    · refine wps_val (v := true) (wps_ite (fun _ => wps_pure (ent_val rfl)) (fun h => absurd (by simp; omega) h)) ?_
      exact wps_ite (fun _ => wps_mapR (wps_pure (hbad (hno fun h => h6 h.1) _))) (fun h => absurd rfl h)
    have h40 : (ls[0].take 4).length = 4 := by simp; omega
    refine wps_val (v := !decide ((ls[0].take 4).length ≤ ls[i].length ∧ ls[i].take (ls[0].take 4).length = ls[0].take 4)) (wps_ite (fun h => absurd h (by simp; omega)) (fun _ => wps_val (bytes_HasPrefix_val (Ent.trans (ent_left _ _) (hpart i hlt)) (Ent.trans (ent_left _ _) hsq) hbi.1 (hb0.1.take 4)) (wps_pure (ent_val rfl)))) ?_
    rw [h40]
    by_cases hpre : ls[i].take 4 = ls[0].take 4
    rotate_left
    · exact wps_ite (fun _ => wps_mapR (wps_pure (hbad (hno fun h => hpre h.2) _))) (fun h => absurd (by simp [hpre]) h)
    refine wps_ite (fun h => absurd h (by simp [hpre]; omega)) (fun _ => ?_)
    refine wps_slice 4 sl[i].len rfl rfl (by omega) hpc ?_
    have hdr : Ent H (byt (subS 1 sl[i] 4 sl[i].len) (ls[i].drop 4)) := Ent.trans (hpart i hlt) (byt_drop hpl (by omega))
    have hps := parSum_len (ls := ls) i (fun j hj hjl => by rw [List.getElem?_eq_getElem hjl]; exact (hall j hjl hj).1) (by omega)
    refine wps_bind (bits_Xor_spec (a := parSum (ls.take i)) (b := ls[i].drop 4) (Ent.trans (ent_right _ _) (own_rsl _ _ _)) (Ent.trans (ent_left _ _) hdr) (by rw [hps]; split <;> omega) (by simp; omega)) fun u => wps_pure ?_
    refine ent_prr (by rw [range_add1 hi (by omega)]; (try dsimp only); omega) (ent_ex (i + 1) (ent_prr ⟨range_add1 hi (by omega), by omega, fun j hj hji => ?_⟩ ?_))
    · by_cases hje : j = i
      · subst hje; exact ⟨h6, hpre⟩
      · exact hall j hj (by omega)
    · rw [List.take_add_one, List.getElem?_eq_getElem hltl]
      show Ent _ (H * own 1 u (bv (parSum (ls.take i ++ [ls[i]]))))
      rw [parSum_snoc]
      exact Ent.starl (ent_left _ _)
  · have hie : i = ls.length := by
      have hc1 : ¬ (st.2 < ((s.len : Nat) : Int)) := fun h => hc (decide_eq_true h)
      omega
    have hps := parSum_len (ls := ls) i (fun j hj hjl => by rw [List.getElem?_eq_getElem hjl]; exact (hall j hjl hj).1) (by omega)
    rw [hie, List.take_length] at hps ⊢
    have hok : parOk ls := ⟨fun h => h0 (by rw [h]; rfl), fun b hbm => by
      obtain ⟨j, hj, rfl⟩ := List.getElem_of_mem hbm
      rw [hhead]
      exact hall j hj (by omega)⟩
    refine wps_mapR ?_
    refine wps_bind1 (bytes_Clone_spec (Ent.trans (ent_left _ _) hsq) (by simp; omega)) fun u => ?_
    refine wps_fact (Ent.trans (ent_right _ _) (own_len _ _ _)) fun ⟨hul, _⟩ => ?_
    refine wps_fact (Ent.trans (ent_left _ _) (Ent.trans (ent_right _ _) (own_len _ _ _))) fun ⟨hvl, _⟩ => ?_
    rw [bl] at hul hvl
    have hu : (ls[0].take 4).length ≤ 4 := by simp; omega
    refine wps_app 1 (bv (parSum ls)) rfl (by decide) (Ent.trans (ent_left _ _) (Ent.trans (ent_right _ _) (own_rsl _ _ _))) (by simp [bv, Value.oneCell']) (by rw [hps] at hvl; split at hvl <;> omega) fun s' hs' => wps_pure ?_
    rw [parL, if_pos hok, hhead]
    refine ent_pickS (by simp [bv]) ?_
    refine Ent.trans (ent_left _ _) (ent_pr rfl)
end Go.Proofs.Ytldmeimebebllaa
namespace Go.Proofs.Ytldmeimebebllaa
open Go.Mo
set_option linter.unusedVariables false
variable {g : Fr} {cv : CV}
def rowOf (q : G3) (seg r : Int) : Int := seg * q.2.1 + r
def parSpot (q : G3) (seg r : Int) : Int × Int := (q.1 - 1 - rowOf q seg r % q.1, 5 + rowOf q seg r)
def blkSpot (q : G3) (seg k : Int) : Int × Int := ((q.1 - 1 - rowOf q seg (k / (q.1 - 1)) % q.1 + 1 + k % (q.1 - 1)) % q.1, 5 + rowOf q seg (k / (q.1 - 1)))
structure InS (q : G3) (seg : Int) : Prop where
  right : RightB q = true
  s0 : 0 ≤ seg
  s1 : seg < q.2.2
def parOkB (q : G3) (seg r : Int) : Bool := RightB q && (decide (0 ≤ seg ∧ seg ≤ q.2.2 - 1) && decide (0 ≤ r ∧ r ≤ q.2.1 - 1))
theorem rowOf_rng {q : G3} {seg r : Int} (h : InS q seg) (hr : 0 ≤ r ∧ r < q.2.1) : 0 ≤ rowOf q seg r ∧ rowOf q seg r < q.2.2 * q.2.1 := by
  have hb := RightB.bnd h.right
  unfold rowOf
  have h1 := hb.r1
  have h0 : 0 ≤ seg * q.2.1 := Int.mul_nonneg h.s0 (by omega)
  have h2 : seg * q.2.1 ≤ (q.2.2 - 1) * q.2.1 := Int.mul_le_mul_of_nonneg_right (by have := h.s1; omega) (by omega)
  rw [Int.sub_mul] at h2
  omega
theorem geo_Parity_val {H : HP} (q : G3) (seg r : Int) : Val g H (geo_Parity q seg r) (if parOkB q seg r then (parSpot q seg r, true) else ((0, 0), false)) := by
  unfold geo_Parity
  refine wps_alloc fun c => ?_
  refine wps_alloc fun d => ?_
  refine wps_ldG q.1 q.2.1 q.2.2 (by rfl) ?_
  refine wps_val (geo_Right_val q) ?_
  have bad : ∀ {K : Bool → M ((Int × Int) × Bool)}, (K = fun r2 => (if (r2) = true then
  bindM (stA ⟨d, 0, none⟩ [(.int .i64 0), (.int .i64 0)]) fun _ =>
    bindM (ldA (fun y : (Int × Int) => [(.int .i64 y.1), (.int .i64 y.2)]) ⟨d, 0, none⟩) fun r6 =>
    pureM ((r6.1, r6.2), false)
  else
  bindM (ld (Value.int .i64) (Addr.add ⟨c, 0, none⟩ 1)) fun x31 =>
    regionM fun S3 =>
    bindM (ldI S3 (Value.int .i64) ⟨c, 0, none⟩) fun x36 =>
    bindM (ldI S3 (Value.int .i64) ⟨c, 0, none⟩) fun x40 =>
    assertM (x40 ≠ 0) <|
    bindM (stA ⟨d, 0, none⟩ [(.int .i64 (w64 ((w64 (x36 - 1)) - (Int.tmod (w64 ((w64 (seg * x31)) + r)) x40)))), (.int .i64 (w64 (5 + (w64 ((w64 (seg * x31)) + r)))))]) fun _ =>
    bindM (ldA (fun y : (Int × Int) => [(.int .i64 y.1), (.int .i64 y.2)]) ⟨d, 0, none⟩) fun r6 =>
    pureM ((r6.1, r6.2), true))) → parOkB q seg r = false → wps g (H * pc c [.int .i64 q.1, .int .i64 q.2.1, .int .i64 q.2.2] * pc d [.int .i64 0, .int .i64 0]) (K true) fun x => pr (x = if parOkB q seg r then (parSpot q seg r, true) else ((0, 0), false)) * H := by
    intro K hK hno
    subst hK
    refine wps_ite (fun _ => ?_) (fun h => absurd rfl h)
    refine wps_stA (by simp) (by simp [Value.oneCell']) ?_
    refine wps_ldA (0, 0) (by rfl) (wps_pure (ent_prr ?_ ent_drop))
    rw [hno]; rfl
  by_cases h1 : RightB q = true
  rotate_left
  · have hno : parOkB q seg r = false := by simp [parOkB, h1]
    refine wps_val (v := true) (wps_ite (fun _ => wps_pure (ent_prr rfl (Ent.refl _))) (fun h => absurd (by simp [h1]) h)) ?_
    refine wps_val (v := true) (wps_ite (fun _ => wps_pure (ent_prr rfl (Ent.refl _))) (fun h => absurd rfl h)) ?_
    exact bad rfl hno
  have hb := RightB.bnd h1
  have b1 := hb.d3
  have b2 := hb.d16
  have b3 := hb.r1
  have b4 := hb.r4
  have b5 := hb.s12
  have b6 := hb.s64
  refine wps_val (v := !decide (0 ≤ seg ∧ seg ≤ q.2.2 - 1)) (wps_ite (fun h => absurd h (by simp [h1])) (fun _ => ?_)) ?_
  · refine wps_ld q.2.2 (by rfl) ?_
    rw [w64_id (n := q.2.2 - 1) (by omega) (by omega)]
    refine wps_val (geo_within_val _ _ _) (wps_pure (ent_prr rfl (Ent.refl _)))
  by_cases h2 : 0 ≤ seg ∧ seg ≤ q.2.2 - 1
  rotate_left
  · have hno : parOkB q seg r = false := by simp only [parOkB, decide_eq_false h2]; simp
    rw [decide_eq_false h2]
    refine wps_val (v := true) (wps_ite (fun _ => wps_pure (ent_prr rfl (Ent.refl _))) (fun h => absurd rfl h)) ?_
    exact bad rfl hno
  rw [decide_eq_true h2]
  refine wps_val (v := !decide (0 ≤ r ∧ r ≤ q.2.1 - 1)) (wps_ite (fun h => absurd h (by decide)) (fun _ => ?_)) ?_
  · refine wps_ld q.2.1 (by rfl) ?_
    rw [w64_id (n := q.2.1 - 1) (by omega) (by omega)]
    refine wps_val (geo_within_val _ _ _) (wps_pure (ent_prr rfl (Ent.refl _)))
  by_cases h3 : 0 ≤ r ∧ r ≤ q.2.1 - 1
  rotate_left
  · have hno : parOkB q seg r = false := by simp only [parOkB, decide_eq_false h3]; simp
    rw [decide_eq_false h3]
    exact bad rfl hno
  have hyes : parOkB q seg r = true := by simp [parOkB, h1, h2, h3]
  have hrw := rowOf_rng (q := q) (seg := seg) (r := r) ⟨h1, h2.1, by omega⟩ ⟨h3.1, by omega⟩
  have hsc := hb.sect.2
  rw [decide_eq_true h3]
  refine wps_ite (fun h => absurd h (by decide)) (fun _ => ?_)
  refine wps_ld q.2.1 (by rfl) ?_
  refine wps_regionH ?_
  refine wps_ldI q.1 (by rfl) ?_
  refine wps_ldI q.1 (by rfl) ?_
  refine wps_assert (by omega) ?_
  have hm0 : 0 ≤ seg * q.2.1 := Int.mul_nonneg h2.1 (by omega)
  have e1 : w64 (w64 (seg * q.2.1) + r) = rowOf q seg r := by
    unfold rowOf at hrw ⊢
    rw [w64_id (n := seg * q.2.1) (by omega) (by omega), w64_id (by omega) (by omega)]
  rw [e1]
  have e2 : Int.tmod (rowOf q seg r) q.1 = rowOf q seg r % q.1 := Int.tmod_eq_emod_of_nonneg hrw.1
  have e3 : 0 ≤ rowOf q seg r % q.1 ∧ rowOf q seg r % q.1 < q.1 := ⟨Int.emod_nonneg _ (by omega), Int.emod_lt_of_pos _ (by omega)⟩
  rw [e2, w64_id (n := q.1 - 1) (by omega) (by omega), w64_id (n := q.1 - 1 - _) (by omega) (by omega), w64_id (n := 5 + _) (by omega) (by omega)]
  refine wps_stA (by simp) (by simp [Value.oneCell']) ?_
  refine wps_ldA (parSpot q seg r) (by rfl) (wps_pure (ent_prr ?_ ent_drop))
  rw [hyes]; rfl
def blkOkB (q : G3) (seg k : Int) : Bool := RightB q && (decide (0 ≤ k ∧ k ≤ placesI q) && decide (0 ≤ seg ∧ seg ≤ q.2.2 - 1))
theorem row_of_k {q : G3} {k : Int} (h : RightB q = true) (hk : 0 ≤ k ∧ k ≤ placesI q) : 0 ≤ k / (q.1 - 1) ∧ k / (q.1 - 1) ≤ q.2.1 - 1 := by
  have hb := RightB.bnd h
  have b1 := hb.d3
  refine ⟨Int.ediv_nonneg hk.1 (by omega), ?_⟩
  have : k / (q.1 - 1) < q.2.1 := Int.ediv_lt_of_lt_mul (by omega) (by have := hk.2; unfold placesI at this; omega)
  omega
theorem geo_Block_val {H : HP} (q : G3) (seg k : Int) : Val g H (geo_Block q seg k) (if blkOkB q seg k then (blkSpot q seg k, true) else ((0, 0), false)) := by
  unfold geo_Block
  refine wps_alloc fun c => ?_
  refine wps_alloc fun d => ?_
  refine wps_ldG q.1 q.2.1 q.2.2 (by rfl) ?_
  refine wps_val (geo_Right_val q) ?_
  by_cases h1 : RightB q = true
  rotate_left
  · have hno : blkOkB q seg k = false := by simp [blkOkB, h1]
    refine wps_val (v := true) (wps_ite (fun _ => wps_pure (ent_prr rfl (Ent.refl _))) (fun h => absurd (by simp [h1]) h)) ?_
    refine wps_ite (fun _ => ?_) (fun h => absurd rfl h)
    refine wps_stA (by simp) (by simp [Value.oneCell']) ?_
    refine wps_ldA (0, 0) (by rfl) (wps_pure (ent_prr ?_ ent_drop))
    rw [hno]; rfl
  have hb := RightB.bnd h1
  have b1 := hb.d3
  have b2 := hb.d16
  have b3 := hb.r1
  have b4 := hb.r4
  have b5 := hb.s12
  have b6 := hb.s64
  refine wps_val (v := !decide (0 ≤ k ∧ k ≤ placesI q)) (wps_ite (fun h => absurd h (by simp [h1])) (fun _ => ?_)) ?_
  · refine wps_ldG q.1 q.2.1 q.2.2 (by rfl) ?_
    refine wps_val (geo_places_val q) ?_
    rw [hb.places.1]
    refine wps_val (geo_within_val _ _ _) (wps_pure (ent_prr rfl (Ent.refl _)))
  by_cases h2 : 0 ≤ k ∧ k ≤ placesI q
  rotate_left
  · have hno : blkOkB q seg k = false := by simp only [blkOkB, decide_eq_false h2]; simp
    rw [decide_eq_false h2]
    refine wps_ite (fun _ => ?_) (fun h => absurd rfl h)
    refine wps_stA (by simp) (by simp [Value.oneCell']) ?_
    refine wps_ldA (0, 0) (by rfl) (wps_pure (ent_prr ?_ ent_drop))
    rw [hno]; rfl
  have hpl : placesI q ≤ 59 := hb.places.2.2
  have hrk := row_of_k h1 h2
  rw [decide_eq_true h2]
  refine wps_ite (fun h => absurd h (by decide)) (fun _ => ?_)
  refine wps_regionH ?_
  refine wps_ldGI q.1 q.2.1 q.2.2 (by rfl) ?_
  refine wps_ldI q.1 (by rfl) ?_
  have e0 : w64 (q.1 - 1) = q.1 - 1 := w64_id (by omega) (by omega)
  rw [e0]
  refine wps_assert (by omega) ?_
  have e1 : w64 (Int.tdiv k (q.1 - 1)) = k / (q.1 - 1) := by rw [Int.tdiv_eq_ediv_of_nonneg h2.1, w64_id] <;> omega
  rw [e1]
  have hpv : parOkB q seg (k / (q.1 - 1)) = blkOkB q seg k := by simp only [parOkB, blkOkB, h1, decide_eq_true h2, decide_eq_true hrk]; simp
  -- what is done with the spot
  have tail : ∀ (e : Nat) (K : (Int × Int) × Bool → M ((Int × Int) × Bool)), (K = fun x29 => bindM (stA ⟨e, 0, none⟩ [(.int .i64 x29.1.1), (.int .i64 x29.1.2)]) fun _ =>
        (if (x29.2) = true then
        regionM fun S3 =>
          bindM (ldI S3 (Value.int .i64) ⟨e, 0, none⟩) fun x34 =>
          bindM (ldI S3 (Value.int .i64) ⟨c, 0, none⟩) fun x38 =>
          assertM ((w64 (x38 - 1)) ≠ 0) <|
          bindM (ldI S3 (Value.int .i64) ⟨c, 0, none⟩) fun x43 =>
          assertM (x43 ≠ 0) <|
          bindM (st ⟨e, 0, none⟩ (.int .i64 (Int.tmod (w64 ((w64 (x34 + 1)) + (Int.tmod k (w64 (x38 - 1))))) x43))) fun _ =>
          bindM (ldA (fun y : (Int × Int) => [(.int .i64 y.1), (.int .i64 y.2)]) ⟨e, 0, none⟩) fun x46 =>
          bindM (stA ⟨d, 0, none⟩ [(.int .i64 x46.1), (.int .i64 x46.2)]) fun _ =>
          bindM (ldA (fun y : (Int × Int) => [(.int .i64 y.1), (.int .i64 y.2)]) ⟨d, 0, none⟩) fun r6 =>
          pureM ((r6.1, r6.2), x29.2)
        else
        bindM (ldA (fun y : (Int × Int) => [(.int .i64 y.1), (.int .i64 y.2)]) ⟨e, 0, none⟩) fun x46 =>
          bindM (stA ⟨d, 0, none⟩ [(.int .i64 x46.1), (.int .i64 x46.2)]) fun _ =>
          bindM (ldA (fun y : (Int × Int) => [(.int .i64 y.1), (.int .i64 y.2)]) ⟨d, 0, none⟩) fun r6 =>
          pureM ((r6.1, r6.2), x29.2))) →
      wps g (H * pc c [.int .i64 q.1, .int .i64 q.2.1, .int .i64 q.2.2] * pc d [.int .i64 0, .int .i64 0] * pc e [.int .i64 0, .int .i64 0]) (K (if parOkB q seg (k / (q.1 - 1)) then (parSpot q seg (k / (q.1 - 1)), true) else ((0, 0), false))) fun x => pr (x = if blkOkB q seg k then (blkSpot q seg k, true) else ((0, 0), false)) * H := by
    intro e K hK
    subst hK
    rw [hpv]
    by_cases h3 : blkOkB q seg k = true
    · rw [if_pos h3]
      have h3' : 0 ≤ seg ∧ seg ≤ q.2.2 - 1 := by
        simp only [blkOkB, Bool.and_eq_true, decide_eq_true_eq] at h3; exact h3.2.2
      have hrw := rowOf_rng (q := q) (seg := seg) (r := k / (q.1 - 1)) ⟨h1, h3'.1, by omega⟩ ⟨hrk.1, by omega⟩
      have e3 : 0 ≤ rowOf q seg (k / (q.1 - 1)) % q.1 ∧ rowOf q seg (k / (q.1 - 1)) % q.1 < q.1 := ⟨Int.emod_nonneg _ (by omega), Int.emod_lt_of_pos _ (by omega)⟩
      have e4 : 0 ≤ k % (q.1 - 1) ∧ k % (q.1 - 1) < q.1 - 1 := ⟨Int.emod_nonneg _ (by omega), Int.emod_lt_of_pos _ (by omega)⟩
      refine wps_stA (by simp) (by simp [Value.oneCell']) ?_
      refine wps_ite (fun _ => ?_) (fun h => absurd rfl h)
      refine wps_regionH ?_
      refine wps_ldI (parSpot q seg (k / (q.1 - 1))).1 (by rfl) ?_
      refine wps_ldI q.1 (by rfl) ?_
      rw [e0]
      refine wps_assert (by omega) ?_
      refine wps_ldI q.1 (by rfl) ?_
      refine wps_assert (by omega) ?_
      have e5 : Int.tmod k (q.1 - 1) = k % (q.1 - 1) := Int.tmod_eq_emod_of_nonneg h2.1
      have e6 : (parSpot q seg (k / (q.1 - 1))).1 = q.1 - 1 - rowOf q seg (k / (q.1 - 1)) % q.1 := rfl
      rw [e5, e6, w64_id (n := q.1 - 1 - _ + 1) (by omega) (by omega), w64_id (n := _ + k % (q.1 - 1)) (by omega) (by omega), Int.tmod_eq_emod_of_nonneg (by omega)]
      refine wps_st (by simp [ovw]) ?_
      refine wps_ldA (blkSpot q seg k) (by rfl) ?_
      refine wps_stA (by simp) (by simp [Value.oneCell']) ?_
      refine wps_ldA (blkSpot q seg k) (by rfl) (wps_pure (ent_prr ?_ ent_drop))
      rw [if_pos h3]
    · rw [if_neg h3]
      refine wps_stA (by simp) (by simp [Value.oneCell']) ?_
      refine wps_ite (fun h => absurd h (by decide)) (fun _ => ?_)
      refine wps_ldA (0, 0) (by rfl) ?_
      refine wps_stA (by simp) (by simp [Value.oneCell']) ?_
      refine wps_ldA (0, 0) (by rfl) (wps_pure (ent_prr ?_ ent_drop))
      rw [if_neg h3]
  refine wps_both ?_ ?_
  · refine wps_stepV (geo_Parity_val q seg (k / (q.1 - 1))) ?_
    refine wps_stepAlloc fun e => ?_
    exact tail e _ rfl
  · refine wps_stepAlloc fun e => ?_
    refine wps_stepV (geo_Parity_val q seg (k / (q.1 - 1))) ?_
    exact tail e _ rfl
end Go.Proofs.Ytldmeimebebllaa
namespace Go.Proofs.Ytldmeimebebllaa
open Go.Mo
set_option linter.unusedVariables false
variable {g : Fr} {cv : CV}
def spotsL (q : G3) (seg : Int) (r : Nat) : List (Int × Int) := (List.range (q.1 - 1).toNat).map (fun c : Nat => blkSpot q seg ((r : Int) * (q.1 - 1) + (c : Int))) ++ [parSpot q seg r]
def sv (l : List (Int × Int)) : List Value := l.flatMap fun s => [.int .i64 s.1, .int .i64 s.2]
theorem sv_snoc (l : List (Int × Int)) (s : Int × Int) : sv (l ++ [s]) = sv l ++ [.int .i64 s.1, .int .i64 s.2] := by simp [sv]
theorem sv_len (l : List (Int × Int)) : (sv l).length = l.length * 2 := by
  induction l with
  | nil => rfl
  | cons a l ih => simp only [sv, List.flatMap_cons, List.length_append, List.length_cons] at ih ⊢; simp at ih ⊢; omega
theorem spotsL_len (q : G3) (seg : Int) (r : Nat) (h : 3 ≤ q.1) : ((spotsL q seg r).length : Int) = q.1 := by simp [spotsL]; omega
abbrev rowsV (a b : Nat) : Value := .func (.func fid_stripe_rows_c1) #[] #[.pointer (some ⟨a, 0, none⟩), .pointer (some ⟨b, 0, none⟩)]
def RowsOk (cv : CV) : Prop := ∀ (a1 a2 : Addr) (yv : Value) (Q : Value → World → Prop) (w : World), stripe_rows_c1 cv yv a1 a2 (fun _ w' => Q (.tuple #[]) w') w → cv.enter (.func (.func fid_stripe_rows_c1) #[] #[.pointer (some a1), .pointer (some a2)]) #[yv] Q w
def rowsA (a b : Nat) (q : G3) (seg : Int) : HP := pc a [.int .i64 q.1, .int .i64 q.2.1, .int .i64 q.2.2] * pc b [.int .i64 seg]
instance (a b : Nat) (q : G3) (seg : Int) : RdC a (rowsA a b q seg) [.int .i64 q.1, .int .i64 q.2.1, .int .i64 q.2.2] := ⟨Ent.trans (ent_left _ _) (pc_ro _ _)⟩
instance (a b : Nat) (q : G3) (seg : Int) : RdC b (rowsA a b q seg) [.int .i64 seg] := ⟨Ent.trans (ent_right _ _) (pc_ro _ _)⟩
abbrev rowsX (q : G3) (seg : Int) (i : Nat) (x : Int × Slc) : HP := pr (x.1 = (i : Int)) * own 2 x.2 (sv (spotsL q seg i))
theorem rows_iter (hcv : RowsOk cv) (a b : Nat) (q : G3) (seg : Int) (hs : InS q seg) : IterX cv (rowsV a b) (fun x : Int × Slc => #[.int .i64 x.1, .slice x.2.base x.2.len x.2.cap]) q.2.1.toNat (rowsX q seg) (rowsA a b q seg) := by
  intro yv I E hstep g
  have hb := RightB.bnd hs.right
  have b1 := hb.d3
  have b2 := hb.d16
  have b3 := hb.r1
  have b4 := hb.r4
  have hse := hs.s0
  have hse2 := hs.s1
  have e0 : w64 (q.1 - 1) = q.1 - 1 := w64_id (by omega) (by omega)
  refine wps_enter (m := stripe_rows_c1 cv yv ⟨a, 0, none⟩ ⟨b, 0, none⟩) (fun Q w h => hcv _ _ _ _ _ h) ?_
  unfold stripe_rows_c1
  simp only [Nat.reduceAdd, Addr.add_mk]
  refine wps_ld q.1 (by rfl) ?_
  refine wps_ld q.2.1 (by rfl) ?_
  refine wps_loop (fun st => ex fun n : Nat => pr (st = (n : Int) ∧ (n : Int) ≤ q.2.1) * (rowsA a b q seg * I n)) (fun st => (q.2.1 - st).toNat) ?_ fun st => ?_
  · exact ent_ex 0 (ent_prr ⟨rfl, by omega⟩ (Ent.refl _))
  refine wps_ex fun n => wps_pr fun ⟨hi, hn⟩ => ?_
  refine wps_ite (fun hc => ?_) (fun hc => ?_)
  rotate_left
  · have hne : n = q.2.1.toNat := by
      have hc1 : ¬ (st < q.2.1) := fun h => hc (decide_eq_true h)
      omega
    rw [hne]
    exact wps_mapR (wps_pure (Ent.starr (ent_orl (Ent.refl _))))
  have hlt : (n : Int) < q.2.1 := by have := of_decide_eq_true hc; omega
  simp only [e0]
  refine wps_loop (fun t => ex fun c : Nat => pr (t.2 = (c : Int) ∧ (c : Int) ≤ q.1 - 1 ∧ t.1.len = c) * rowsA a b q seg * I n * own 2 t.1 (sv ((List.range c).map fun c : Nat => blkSpot q seg ((n : Int) * (q.1 - 1) + (c : Int))))) (fun t => (q.1 - 1 - t.2).toNat) ?_ fun t => ?_
  · refine ent_ex 0 (ent_own0 ?_)
    repeat first | (with_reducible refine ent_pick ?_) | (refine ent_prq ?_)
    all_goals first | exact ⟨rfl, by omega, rfl⟩ | trivial
  refine wps_ex fun c => wps_prP fun ⟨ht, hcn, hcl⟩ => ?_
  refine wps_ite (fun hc2 => ?_) (fun hc2 => ?_)
  · have hlt2 : (c : Int) < q.1 - 1 := by have := of_decide_eq_true hc2; omega
    refine wps_ldG q.1 q.2.1 q.2.2 (by rfl) ?_
    refine wps_ld seg (by rfl) ?_
    have hm : (n : Int) * (q.1 - 1) ≤ (q.2.1 - 1) * (q.1 - 1) := Int.mul_le_mul_of_nonneg_right (by omega) (by omega)
    have hm2 := hb.mul
    have hm3 : 0 ≤ (n : Int) * (q.1 - 1) := Int.mul_nonneg (by omega) (by omega)
    have hk : blkOkB q seg ((n : Int) * (q.1 - 1) + (c : Int)) = true := by
      rw [Int.sub_mul] at hm
      simp only [blkOkB, hs.right, Bool.true_and, Bool.and_eq_true, decide_eq_true_eq]
      unfold placesI
      omega
    have e1 : w64 (w64 (st * (q.1 - 1)) + t.2) = (n : Int) * (q.1 - 1) + (c : Int) := by
      rw [Int.sub_mul] at hm
      rw [hi, ht, w64_id (n := (n : Int) * (q.1 - 1)) (by omega) (by omega), w64_id (by omega) (by omega)]
    rw [e1]
    refine wps_val (geo_Block_val q seg _) ?_
    rw [if_pos hk]
    refine wps_alloc fun x8 => ?_
    refine wps_stA (by simp) (by simp [Value.oneCell']) ?_
    refine wps_ldA (blkSpot q seg ((n : Int) * (q.1 - 1) + (c : Int))) (by rfl) ?_
    refine wps_alloc fun x => ?_
    refine wps_app 2 [.int .i64 (blkSpot q seg ((n : Int) * (q.1 - 1) + (c : Int))).1, .int .i64 (blkSpot q seg ((n : Int) * (q.1 - 1) + (c : Int))).2] rfl (by decide) (rsl_pc rfl) (by simp [Value.oneCell']) (by (try dsimp only); omega) fun s' hs' => wps_pure ?_
    have hs2 : s'.len = t.1.len + 1 := hs'
    refine ent_prr (by rw [range_add1 ht (by omega)]; (try dsimp only); omega) (ent_ex (c + 1) ?_)
    refine ent_pickS (by rw [List.range_succ, List.map_append, List.map_cons, List.map_nil, sv_snoc]) ?_
    repeat first | (with_reducible refine ent_pick ?_) | (refine ent_prq ?_)
    all_goals first | exact ⟨range_add1 ht (by omega), by omega, by (try dsimp only); omega⟩ | trivial
  · have hce : c = (q.1 - 1).toNat := by
      have hc1 : ¬ (t.2 < q.1 - 1) := fun h => hc2 (decide_eq_true h)
      omega
    refine wps_mapR ?_
    refine wps_ldG q.1 q.2.1 q.2.2 (by rfl) ?_
    refine wps_ld seg (by rfl) ?_
    refine wps_val (geo_Parity_val q seg st) ?_
    have hp : parOkB q seg st = true := by
      simp only [parOkB, hs.right, Bool.true_and, Bool.and_eq_true, decide_eq_true_eq]; omega
    rw [if_pos hp]
    refine wps_alloc fun x8 => ?_
    refine wps_stA (by simp) (by simp [Value.oneCell']) ?_
    refine wps_ldA (parSpot q seg st) (by rfl) ?_
    refine wps_alloc fun x => ?_
    refine wps_app 2 [.int .i64 (parSpot q seg st).1, .int .i64 (parSpot q seg st).2] rfl (by decide) (rsl_pc rfl) (by simp [Value.oneCell']) (by (try dsimp only); omega) fun s' hs' => ?_
    refine wps_pre (H' := rowsA a b q seg * (rowsX q seg n (st, s') * I n)) ?_ ?_
    · have he : sv ((List.range c).map fun c : Nat => blkSpot q seg ((n : Int) * (q.1 - 1) + (c : Int))) ++ [.int .i64 (parSpot q seg st).1, .int .i64 (parSpot q seg st).2] = sv (spotsL q seg n) := by
        rw [spotsL, sv_snoc, hce, hi]
      rw [he]
      simp only [← star_assoc]
      repeat first | (with_reducible exact ent_drop) | (with_reducible refine ent_pick ?_) | (refine ent_prx ?_ ?_; rotate_left)
      all_goals first | exact hi | trivial
    refine wps_bind (wps_yield (hstep n (st, s') (by omega) g)) fun y => ?_
    cases y with
    | true =>
      refine wps_ite (fun h => absurd h (by decide)) (fun _ => wps_pure ?_)
      exact ent_prr (by rw [range_add1 hi (by omega)]; omega) (ent_ex (n + 1) (ent_prr ⟨range_add1 hi (by omega), by omega⟩ (Ent.refl _)))
    | false =>
      refine wps_ite (fun _ => wps_mapR (wps_pure ?_)) (fun h => absurd rfl h)
      exact Ent.starr (ent_orr (Ent.refl _))
theorem stripe_rows_spec {H : HP} (q : G3) (seg : Int) : wps g H (stripe_rows q seg) (fun v => ex fun a => ex fun b => pr (v = rowsV a b) * H * rowsA a b q seg) := by
  unfold stripe_rows
  refine wps_alloc fun a => ?_
  refine wps_alloc fun b => wps_pure (ent_ex a (ent_ex b ?_))
  unfold rowsA
  rw [star_assoc, star_assoc]
  exact ent_pr rfl
end Go.Proofs.Ytldmeimebebllaa
namespace Go.Proofs.Ytldmeimebebllaa
open Go.Mo
set_option linter.unusedVariables false
variable {g : Fr} {cv : CV}
structure BlkA where
  owner : Int
  index : Int
  ds : Slc
  data : List Int
def BlkA.cells (c : BlkA) : List Value := [.int .i64 c.owner, .int .i64 c.index, .slice c.ds.base c.ds.len c.ds.cap]
def BlkA.t (c : BlkA) : Int × Int × Slc := (c.owner, c.index, c.ds)
def BlkA.nil : BlkA := ⟨0, 0, ⟨none, 0, 0⟩, []⟩
structure BlkA.ok (c : BlkA) : Prop where
  byts : Byts c.data
  len : c.data.length ≤ 140737488355328
  ob : c.owner < 9223372036854775808
  ib : c.index < 9223372036854775808
def blkP (c : BlkA) : HP := pr c.ok * byt c.ds c.data
instance (c : BlkA) : Pers (blkP c) := by unfold blkP; infer_instance
def blocksP (s : Slc) (l : List BlkA) : HP := pr True * rsl 3 s (l.flatMap BlkA.cells) * al fun i : Nat => al fun c : BlkA => imp (l[i]? = some c) (blkP c)
instance (s : Slc) (l : List BlkA) : Pers (blocksP s l) := by unfold blocksP; infer_instance
theorem cellsK_len (c : BlkA) : c.cells.length = 3 := rfl
theorem blocksP_rsl (s : Slc) (l : List BlkA) : Ent (blocksP s l) (rsl 3 s (l.flatMap BlkA.cells)) := Ent.trans (ent_left _ _) (ent_right _ _)
theorem blocksP_get {s : Slc} {l : List BlkA} {i : Nat} {c : BlkA} (h : l[i]? = some c) : Ent (blocksP s l) (blkP c) := fun o ho => ent_right _ _ o ho i c h
theorem blocksP_len (s : Slc) (l : List BlkA) : Ent (blocksP s l) (pr (l.length = s.len)) := Ent.trans (blocksP_rsl s l) (Ent.trans (rsl_len _ _ _) fun o ho => by
  have : (l.flatMap BlkA.cells).length = s.len * 3 := ho
  rw [flat_len cellsK_len] at this
  show l.length = s.len
  omega)
def blkAt (l : List BlkA) (k : Nat) : BlkA := l.getD k BlkA.nil
theorem nil_blk (A : HP) : Ent A (blkP BlkA.nil) := fun o _ => ent_pr (A := byt BlkA.nil.ds BlkA.nil.data) (p := BlkA.nil.ok) ⟨fun n hn => by simp [BlkA.nil] at hn, by simp [BlkA.nil], by decide, by decide⟩ o (.inl ⟨rfl, rfl⟩)
theorem blocksP_at (s : Slc) (l : List BlkA) (k : Nat) : Ent (blocksP s l) (blkP (blkAt l k)) := by
  unfold blkAt
  by_cases h : k < l.length
  · rw [List.getD_eq_getElem?_getD, List.getElem?_eq_getElem h]
    exact blocksP_get (List.getElem?_eq_getElem h)
  · rw [List.getD_eq_getElem?_getD, List.getElem?_eq_none (by omega)]
    exact nil_blk _
def encAt (seq : Int) (l : List BlkA) (k : Nat) : List Int := encL seq (blkAt l k).owner (blkAt l k).index (blkAt l k).data
def encAll (seq : Int) (l : List BlkA) (n : Nat) : Bool := (List.range n).all fun k => decide (encOk seq (blkAt l k).owner (blkAt l k).index (blkAt l k).data)
theorem encAll_iff {seq : Int} {l : List BlkA} {n : Nat} : encAll seq l n = true ↔ ∀ k, k < n → encOk seq (blkAt l k).owner (blkAt l k).index (blkAt l k).data := by
  simp [encAll]
def nBlk (q : G3) : Nat := (placesI q + 1).toNat
theorem geo_Places_val {H : HP} (q : G3) (h : RightB q = true) : Val g H (geo_Places q) (placesI q) := by
  unfold geo_Places
  refine wps_alloc fun c => ?_
  refine wps_ldG q.1 q.2.1 q.2.2 (by rfl) ?_
  refine wps_val (geo_Right_val q) ?_
  refine wps_ite (fun h' => absurd h' (by simp [h])) (fun _ => ?_)
  refine wps_ldG q.1 q.2.1 q.2.2 (by rfl) ?_
  refine wps_val (geo_places_val q) (wps_pure (ent_prr (RightB.bnd h).places.1 ent_drop))
theorem stripe_encoded_spec (q : G3) (hq : RightB q = true) (seq : Int) (s : Slc) (l : List BlkA) :
    wps g (blocksP s l) (stripe_encoded q seq s) (fun t => if encAll seq l (nBlk q) then blocksP s l * rows t ((List.range (nBlk q)).map (encAt seq l)) else pr (t = ⟨none, 0, 0⟩) * blocksP s l) := by
  unfold stripe_encoded
  have hpl := (RightB.bnd hq).places.2
  refine wps_fact (blocksP_len s l) fun hl => ?_
  refine wps_alloc fun c => ?_
  refine wps_ldG q.1 q.2.1 q.2.2 (by rfl) ?_
  refine wps_val (geo_Places_val q hq) ?_
  have e0 : w64 (placesI q + 1) = placesI q + 1 := w64_id (by omega) (by omega)
  simp only [e0]
  refine wps_loop (fun t => ex fun k : Nat => ex fun sl : List Slc => pr (t.2 = (k : Int) ∧ k ≤ nBlk q ∧ encAll seq l k = true ∧ sl.length = k ∧ t.1.len = k) * blocksP s l * seqp sl (fun i => ((List.range k).map (encAt seq l)).getD i []) * own 1 t.1 (sl.map vS)) (fun t => (placesI q + 1 - t.2).toNat) ?_ fun t => ?_
  · refine ent_ex 0 (ent_ex [] (ent_own0 (ent_pers ?_ (seqp_nil _ _))))
    repeat first | (with_reducible refine ent_pick ?_) | (refine ent_prq ?_)
    all_goals first | exact ⟨rfl, by omega, rfl, rfl, rfl⟩ | trivial
  refine wps_ex fun k => wps_ex fun sl => wps_prP fun ⟨ht, hkn, hall, hsl, htl⟩ => ?_
  refine wps_ite (fun hc => ?_) (fun hc => ?_)
  · have hlt : k < nBlk q := by have := of_decide_eq_true hc; unfold nBlk; omega
    have hn60 : nBlk q ≤ 60 := by unfold nBlk; omega
    have hnb : (nBlk q : Int) = placesI q + 1 := by unfold nBlk; omega
    refine wps_alloc fun x9 => ?_
    refine wps_bindS (R := fun _ => blocksP s l * seqp sl (fun i => ((List.range k).map (encAt seq l)).getD i []) * own 1 t.1 (sl.map vS) * pc x9 (blkAt l k).cells) ?_ fun _ => ?_
    · refine wps_ite (fun hk => ?_) (fun hk => ?_)
      · have hkl : k < l.length := by have := of_decide_eq_true hk; omega
        have hget : l[k]? = some l[k] := List.getElem?_eq_getElem hkl
        have hat : blkAt l k = l[k] := by simp [blkAt, List.getD_eq_getElem?_getD, hget]
        refine wps_rdA k l[k].t (Ent.trans (ent_pick1 (A := blocksP s l)) (blocksP_rsl s l)) ht (by simp) (fun j v hj => ?_) ?_
        · have h3 : j < 3 := by have := (List.getElem?_eq_some_iff.1 hj).1; simpa using this
          rw [flat_get cellsK_len hget h3]; exact hj
        refine wps_stA (by simp) (by simp [Value.oneCell']) (wps_pure ?_)
        rw [hat]
        refine ent_pickC (by rfl) ?_
        repeat first | (with_reducible exact ent_drop) | (with_reducible refine ent_pick ?_)
      · have hkl : ¬ k < l.length := fun h => hk (decide_eq_true (by omega))
        have hat : blkAt l k = BlkA.nil := by simp [blkAt, List.getD_eq_getElem?_getD, List.getElem?_eq_none (show l.length ≤ k by omega)]
        refine wps_pure ?_
        rw [hat]
        refine ent_pickC (by rfl) ?_
        repeat first | (with_reducible exact ent_drop) | (with_reducible refine ent_pick ?_)
    refine wps_ld (blkAt l k).owner (by rfl) ?_
    refine wps_ld (blkAt l k).index (by rfl) ?_
    refine wps_ld (blkAt l k).ds (by rfl) ?_
    refine wps_pre (H' := blocksP s l * seqp sl (fun i => ((List.range k).map (encAt seq l)).getD i []) * own 1 t.1 (sl.map vS)) ?_ ?_
    · repeat with_reducible exact ent_drop
    refine wps_bind (sector_Encode_spec seq (blkAt l k).owner (blkAt l k).index (data := (blkAt l k).data) (Ent.trans (ent_pick1 (A := blocksP s l)) (Ent.trans (blocksP_at s l k) (ent_right _ _)))) fun x => ?_
    by_cases hok : encOk seq (blkAt l k).owner (blkAt l k).index (blkAt l k).data
    rotate_left
    · rw [if_neg hok]
      refine wps_pr fun hx => ?_
      refine wps_ite (fun _ => wps_mapR (wps_pure ?_)) (fun h => absurd (by simp [hx]) h)
      have hno : ¬ encAll seq l (nBlk q) = true := fun h => hok (encAll_iff.1 h k hlt)
      show Ent _ (if encAll seq l (nBlk q) = true then _ else _)
      rw [if_neg hno]
      exact ent_prr rfl ent_pick1
    · rw [if_pos hok, star_assoc]
      refine wps_pr fun hx => ?_
      refine wps_ite (fun h => absurd h (by simp [hx])) (fun _ => ?_)
      try simp only [← star_assoc]
      refine wps_alloc fun y => ?_
      refine wps_app 1 [vS x.1] rfl (by decide) (rsl_pc rfl) (by simp [Value.oneCell', vS]) (by (try dsimp only); omega) fun t2 ht2 => wps_pure ?_
      have ht3 : t2.len = t.1.len + 1 := ht2
      have hsn : (List.range (k + 1)).map (encAt seq l) = (List.range k).map (encAt seq l) ++ [encAt seq l k] := by rw [List.range_succ, List.map_append]; rfl
      refine ent_prr (by rw [range_add1 ht (by omega)]; (try dsimp only); omega) (ent_ex (k + 1) (ent_ex (sl ++ [x.1]) ?_))
      rw [hsn]
      refine ent_pickS (by simp) ?_
      refine ent_swap (A := own 1 x.1 (bv (encL seq (blkAt l k).owner (blkAt l k).index (blkAt l k).data))) (B := byt x.1 (encAt seq l k)) (own_rsl _ _ _) ?_
      refine ent_join (A := seqp sl fun i => ((List.range k).map (encAt seq l)).getD i []) (B := byt x.1 (encAt seq l k)) (seqp_snocL (by simp [hsl])) ?_
      repeat first | (with_reducible refine ent_pick ?_) | (refine ent_prq ?_)
      all_goals first | skip | trivial
      refine ⟨range_add1 ht (by omega), by omega, encAll_iff.2 fun j hj => ?_, by simp [hsl], by simp [ht3, htl]⟩
      by_cases hjk : j = k
      · subst hjk; exact hok
      · exact encAll_iff.1 hall j (by omega)
  · have hke : k = nBlk q := by
      have hc1 : ¬ (t.2 < placesI q + 1) := fun h => hc (decide_eq_true h)
      unfold nBlk at *; omega
    rw [hke] at hall hsl htl ⊢
    refine wps_mapR (wps_pure ?_)
    show Ent _ (if encAll seq l (nBlk q) = true then _ else _)
    rw [if_pos hall]
    refine ent_exr sl ?_
    simp only [← star_assoc]
    refine ent_pickS (by rfl) (ent_pick (ent_prx ⟨by simp [hsl], by simp [htl]⟩ ?_))
    repeat with_reducible exact ent_drop
end Go.Proofs.Ytldmeimebebllaa
namespace Go.Proofs.Ytldmeimebebllaa
open Go.Mo
set_option linter.unusedVariables false
variable {g : Fr} {cv : CV}
def bgate (q m : G3) (R : Rk) (s : Int × Int) (b : List Int) : Int := if (slotV q m s.1).2 then R.gate (slotV q m s.1).1 s.2 b.length else 11
def bwrite (q m : G3) (R : Rk) (s : Int × Int) (b : List Int) : Rk := if (slotV q m s.1).2 then R.write (slotV q m s.1).1 s.2 b else R
def wrAll (q m : G3) : List ((Int × Int) × List Int) → Rk → Rk × Bool
  | [], R => (R, false)
  | e :: es, R => if bgate q m R e.1 e.2 = 12 then (bwrite q m R e.1 e.2, true) else wrAll q m es (bwrite q m R e.1 e.2)
def rowL (q : G3) (seq : Int) (l : List BlkA) (r : Nat) : List (List Int) := (List.range (q.1 - 1).toNat).map fun i => encAt seq l (r * (q.1 - 1).toNat + i)
def datAt (q : G3) (seq : Int) (l : List BlkA) (r i : Nat) : List Int := if i < (q.1 - 1).toNat then encAt seq l (r * (q.1 - 1).toNat + i) else (parL (rowL q seq l r)).getD []
def rowW (q : G3) (seg seq : Int) (l : List BlkA) (r : Nat) : List ((Int × Int) × List Int) := (List.range q.1.toNat).map fun i => ((spotsL q seg r).getD i (0, 0), datAt q seq l r i)
def restW (q : G3) (seg seq : Int) (l : List BlkA) (r : Nat) : List ((Int × Int) × List Int) := ((List.range q.2.1.toNat).drop r).flatMap (rowW q seg seq l)
theorem restW_step {q : G3} {seg seq : Int} {l : List BlkA} {r : Nat} (h : r < q.2.1.toNat) : restW q seg seq l r = rowW q seg seq l r ++ restW q seg seq l (r + 1) := by
  unfold restW
  rw [List.drop_eq_getElem_cons (by simpa using h)]
  simp
theorem restW_end {q : G3} {seg seq : Int} {l : List BlkA} : restW q seg seq l q.2.1.toNat = [] := by
  unfold restW
  rw [List.drop_of_length_le (by simp)]; rfl
def swrite (q m : G3) (R : Rk) (seg seq : Int) (l : List BlkA) : Rk × Int :=
  if ¬ (0 ≤ seg ∧ seg < q.2.2) ∨ seq < 1 ∨ seq > 4294967295 then (R, 28)
  else if encAll seq l (nBlk q) = false ∨ nBlk q < l.length then (R, 41)
  else if 1 < (badL q m R).length then (R, 14)
  else if (wrAll q m (restW q seg seq l 0) R).2 = true then ((wrAll q m (restW q seg seq l 0) R).1, 12)
  else if 1 < (badL q m (wrAll q m (restW q seg seq l 0) R).1).length then ((wrAll q m (restW q seg seq l 0) R).1, 14)
  else ((wrAll q m (restW q seg seq l 0) R).1, 0)
theorem seqp_sub {sl : List Slc} {L : List (List Int)} (a n : Nat) (hl : sl.length = L.length) : Ent (seqp sl fun i => L.getD i []) (seqp ((sl.drop a).take n) fun i => ((L.drop a).take n).getD i []) := fun o ho k s hk => by
  rw [List.getElem?_take] at hk
  split at hk
  · rename_i hkn
    rw [List.getElem?_drop] at hk
    have h := ho (a + k) s hk
    have e : ((L.drop a).take n).getD k [] = L.getD (a + k) [] := by
      simp [List.getD_eq_getElem?_getD, hkn, List.getElem?_drop]
    show (byt s (((L.drop a).take n).getD k [])).p o
    rw [e]; exact h
  · cases hk
theorem sv_get {l : List (Int × Int)} {i : Nat} {s : Int × Int} (h : l[i]? = some s) {j : Nat} (hj : j < 2) : (sv l)[i * 2 + j]? = [Value.int .i64 s.1, Value.int .i64 s.2][j]? :=
  flat_get (f := fun s : Int × Int => [Value.int .i64 s.1, Value.int .i64 s.2]) (z := 2) (fun _ => rfl) h hj
theorem rowL_eq {q : G3} {seq : Int} {l : List BlkA} {r : Nat} (hq : RightB q = true) (hr : (r : Int) < q.2.1) : (((List.range (nBlk q)).map (encAt seq l)).drop (r * (q.1 - 1).toNat)).take (q.1 - 1).toNat = rowL q seq l r := by
  have hb := RightB.bnd hq
  have b1 := hb.d3
  have hm := hb.mul
  have hm1 : ((r : Int) + 1) * (q.1 - 1) ≤ q.2.1 * (q.1 - 1) := Int.mul_le_mul_of_nonneg_right (by omega) (by omega)
  obtain ⟨W, hW⟩ : ∃ W : Nat, q.1 - 1 = (W : Int) := ⟨(q.1 - 1).toNat, by omega⟩
  have hn : (nBlk q : Int) = q.2.1 * (q.1 - 1) := by unfold nBlk placesI; omega
  rw [hW] at hm1 hn
  have hW2 : (q.1 - 1).toNat = W := by omega
  rw [Int.add_mul, Int.one_mul, ← Int.natCast_mul] at hm1
  have hle : r * W + W ≤ nBlk q := by omega
  unfold rowL
  rw [hW2]
  apply List.ext_getElem?
  intro i
  by_cases hi : i < W
  · rw [List.getElem?_take, if_pos hi, List.getElem?_drop, List.getElem?_map, List.getElem?_map, List.getElem?_range (by omega), List.getElem?_range hi]; rfl
  · rw [List.getElem?_take, if_neg hi, List.getElem?_map, List.getElem?_eq_none (by simp; omega)]; rfl
theorem encAt_len {seq : Int} {l : List BlkA} {k n : Nat} (h : encAll seq l n = true) (hk : k < n) : (encAt seq l k).length = 64 := encL_len (encAll_iff.1 h k hk).2.2.2
theorem stripe_Write_spec (hcv : RowsOk cv) (bb rb : Nat) (q m : G3) (hq : RightB q = true) (R : Rk) (ds : Slc) (ps : List Nat) (seg seq : Int) (s : Slc) (l : List BlkA) (hby : ∀ c ∈ l, Byts c.data) :
    wps g (blocksP s l * bnk bb rb q m * rackP rb R ds ps) (stripe_Write cv (ptr bb) seg seq s) (fun e => pr (e = (swrite q m R seg seq l).2) * blocksP s l * bnk bb rb q m * rackP rb (swrite q m R seg seq l).1 ds ps) := by
  unfold stripe_Write
  have hb := RightB.bnd hq
  have b1 := hb.d3
  have b2 := hb.d16
  have b3 := hb.r1
  have b4 := hb.r4
  have b5 := hb.s12
  have b6 := hb.s64
  have hpl := hb.places.2
  refine wps_fact (Ent.trans (ent_pick1 (A := blocksP s l)) (blocksP_len s l)) fun hl => ?_
  refine wps_alloc fun x4 => ?_
  refine wps_alloc fun x8 => ?_
  refine wps_ld (ptr bb) (by rfl) ?_
  refine wps_valH (fun _ => bank_Geo_val bb rb q m) ?_
  refine wps_alloc fun x9 => ?_
  refine wps_stA (by simp) (by simp [Value.oneCell']) ?_
  refine wps_pre (H' := blocksP s l * bnk bb rb q m * rackP rb R ds ps * pc x4 [.pointer (ptr bb)] * pc x8 [.int .i64 0] * pc x9 [.int .i64 q.1, .int .i64 q.2.1, .int .i64 q.2.2]) ?_ ?_
  · refine ent_pickC (by rfl) ?_
    repeat with_reducible exact ent_drop
  refine wps_val (v := decide (¬ (0 ≤ seg ∧ seg < q.2.2))) ?_ ?_
  · refine wps_ite (fun h => wps_pure (ent_prr ?_ (Ent.refl _))) (fun h => ?_)
    · have := of_decide_eq_true h
      exact (decide_eq_true (by omega)).symm
    · have h' : ¬ seg < 0 := fun h2 => h (decide_eq_true h2)
      refine wps_ld q.2.2 (by rfl) (wps_pure (ent_prr ?_ (Ent.refl _)))
      exact decide_eq_decide.2 (by omega)
  refine wps_val (v := decide (¬ (0 ≤ seg ∧ seg < q.2.2) ∨ seq < 1)) ?_ ?_
  · refine wps_ite (fun h => wps_pure (ent_prr ?_ (Ent.refl _))) (fun h => wps_pure (ent_prr ?_ (Ent.refl _)))
    · exact (decide_eq_true (.inl (of_decide_eq_true h))).symm
    · exact decide_eq_decide.2 ⟨.inr, fun h2 => h2.elim (fun h3 => absurd (decide_eq_true h3) h) id⟩
  refine wps_val (v := decide (¬ (0 ≤ seg ∧ seg < q.2.2) ∨ seq < 1 ∨ seq > 4294967295)) ?_ ?_
  · refine wps_ite (fun h => wps_pure (ent_prr ?_ (Ent.refl _))) (fun h => wps_pure (ent_prr ?_ (Ent.refl _)))
    · have := of_decide_eq_true h
      exact (decide_eq_true (by omega)).symm
    · have h' : ¬ (¬ (0 ≤ seg ∧ seg < q.2.2) ∨ seq < 1) := fun h2 => h (decide_eq_true h2)
      exact decide_eq_decide.2 (by omega)
  refine wps_ite (fun h => ?_) (fun h => ?_)
  · have h' := of_decide_eq_true h
    have hsw : swrite q m R seg seq l = (R, 28) := if_pos h'
    rw [hsw]
    refine wps_st (by simp) ?_
    refine wps_ld 28 (by rfl) (wps_pure ?_)
    repeat first | (with_reducible refine ent_pick ?_) | (refine ent_prq ?_)
    all_goals first | rfl | trivial
  have h28 : ¬ (¬ (0 ≤ seg ∧ seg < q.2.2) ∨ seq < 1 ∨ seq > 4294967295) := fun h2 => h (decide_eq_true h2)
  have hseg : 0 ≤ seg ∧ seg < q.2.2 := by omega
  refine wps_ldG q.1 q.2.1 q.2.2 (by rfl) ?_
  refine wps_call (F := bnk bb rb q m * rackP rb R ds ps * pc x4 [.pointer (ptr bb)] * pc x8 [.int .i64 0] * pc x9 [.int .i64 q.1, .int .i64 q.2.1, .int .i64 q.2.2]) (fun _ => stripe_encoded_spec q hq seq s l) ?_ fun t => ?_
  · repeat first | (with_reducible exact ent_drop) | (with_reducible refine ent_pick ?_)
  refine wps_alloc fun x10 => ?_
  refine wps_st (by simp) ?_
  refine wps_ld t (by rfl) ?_
  have hnb : (nBlk q : Int) = placesI q + 1 := by unfold nBlk; omega
  by_cases hall : encAll seq l (nBlk q) = true
  rotate_left
  · have h41 : encAll seq l (nBlk q) = false ∨ nBlk q < l.length := .inl (by simpa using hall)
    have hsw : swrite q m R seg seq l = (R, 41) := by unfold swrite; rw [if_neg h28, if_pos h41]
    rw [hsw]
    simp only [hall, if_false, Bool.false_eq_true]
    simp only [← star_assoc]
    refine wps_prP fun ht => ?_
    subst ht
    refine wps_val (v := true) (wps_ite (fun _ => wps_pure (ent_val rfl)) (fun h => absurd rfl h)) ?_
    refine wps_ite (fun _ => ?_) (fun h => absurd rfl h)
    refine wps_st (by simp) ?_
    refine wps_ld 41 (by rfl) (wps_pure ?_)
    repeat first | (with_reducible refine ent_pick ?_) | (refine ent_prq ?_)
    all_goals first | rfl | trivial
  simp only [hall, if_true]
  unfold rows
  refine wps_exP fun sl => ?_
  simp only [← star_assoc]
  refine wps_prP fun ⟨hsl, htl⟩ => ?_
  have htl' : t.len = nBlk q := by simpa using htl
  have hsl' : sl.length = nBlk q := by simpa using hsl
  refine wps_val (v := decide (nBlk q < l.length)) ?_ ?_
  · refine wps_ite (fun h => absurd h (by simp; omega)) (fun _ => ?_)
    refine wps_ld t (by rfl) (wps_pure (ent_prr ?_ (Ent.refl _)))
    exact decide_eq_decide.2 (by omega)
  by_cases hgt : nBlk q < l.length
  · have hsw : swrite q m R seg seq l = (R, 41) := by unfold swrite; rw [if_neg h28, if_pos (.inr hgt)]
    rw [hsw]
    refine wps_ite (fun _ => ?_) (fun h => absurd (decide_eq_true hgt) h)
    refine wps_st (by simp) ?_
    refine wps_ld 41 (by rfl) (wps_pure ?_)
    repeat first | (with_reducible refine ent_pick ?_) | (refine ent_prq ?_)
    all_goals first | rfl | trivial
  have h41 : ¬ (encAll seq l (nBlk q) = false ∨ nBlk q < l.length) := fun h => h.elim (fun h => by simp [hall] at h) hgt
  refine wps_ite (fun h => absurd (of_decide_eq_true h) hgt) (fun _ => ?_)
  refine wps_ld (ptr bb) (by rfl) ?_
  refine wps_call2 (fun _ => bank_Bad_spec bb rb q m R ds ps b2) fun bd => ?_
  simp only [← star_assoc]
  refine wps_fact (Ent.trans (ent_pick1 (A := own 1 bd (iv (badL q m R)))) (own_len _ _ _)) fun ⟨hbl, _⟩ => ?_
  have hbl' : (badL q m R).length = bd.len := by simpa [iv] using hbl
  by_cases hbad : 1 < (badL q m R).length
  · have hsw : swrite q m R seg seq l = (R, 14) := by unfold swrite; rw [if_neg h28, if_neg h41, if_pos hbad]
    rw [hsw]
    refine wps_ite (fun _ => ?_) (fun h => absurd (by simp; omega) h)
    refine wps_st (by simp) ?_
    refine wps_ld 14 (by rfl) (wps_pure ?_)
    repeat first | (with_reducible refine ent_pick ?_) | (refine ent_prq ?_)
    all_goals first | rfl | trivial
  have hsw : swrite q m R seg seq l = if (wrAll q m (restW q seg seq l 0) R).2 = true then ((wrAll q m (restW q seg seq l 0) R).1, 12) else if 1 < (badL q m (wrAll q m (restW q seg seq l 0) R).1).length then ((wrAll q m (restW q seg seq l 0) R).1, 14) else ((wrAll q m (restW q seg seq l 0) R).1, 0) := by
    unfold swrite; rw [if_neg h28, if_neg h41, if_neg hbad]
  rw [hsw]
  refine wps_ite (fun h => absurd h (by simp; omega)) (fun _ => ?_)
  refine wps_ldG q.1 q.2.1 q.2.2 (by rfl) ?_
  refine wps_bind (stripe_rows_spec q seg) fun v => ?_
  refine wps_ex fun ra => wps_ex fun rc => ?_
  rw [star_assoc, star_assoc]
  refine wps_pr fun hv => ?_
  subst hv
  generalize hL : (List.range (nBlk q)).map (encAt seq l) = L at *
  have hLl : L.length = nBlk q := by rw [← hL]; simp
  refine wps_rangeX (F := emp)
    (fun i => ex fun R' : Rk => pr (wrAll q m (restW q seg seq l 0) R = wrAll q m (restW q seg seq l i) R') * blocksP s l * bnk bb rb q m * rackP rb R' ds ps * pc x4 [.pointer (ptr bb)] * pc x8 [.int .i64 0] * pc x9 [.int .i64 q.1, .int .i64 q.2.1, .int .i64 q.2.2] * pc x10 [vS t] * seqp sl (fun i => L.getD i []) * own 1 t (sl.map vS))
    (fun j => match j with | .ret => ex fun R' : Rk => pr (wrAll q m (restW q seg seq l 0) R = (R', true)) * blocksP s l * bnk bb rb q m * rackP rb R' ds ps * pc x8 [.int .i64 12] | .exit _ => pr False)
    (fun i x t' => pr (t' = x) * (rowsA ra rc q seg * (rowsX q seg i x * ex fun R' : Rk => pr (wrAll q m (restW q seg seq l 0) R = wrAll q m (restW q seg seq l i) R') * blocksP s l * bnk bb rb q m * rackP rb R' ds ps * pc x4 [.pointer (ptr bb)] * pc x8 [.int .i64 0] * pc x9 [.int .i64 q.1, .int .i64 q.2.1, .int .i64 q.2.2] * pc x10 [vS t] * seqp sl (fun i => L.getD i []) * own 1 t (sl.map vS))))
    (rows_iter hcv ra rc q seg ⟨hq, hseg.1, hseg.2⟩) ?_ ?_ ?_ ?_ ?_ ?_
  · refine Ent.trans ?_ (Ent.of_eq (emp_star _).symm)
    refine ent_exr R ?_
    simp only [← star_assoc]
    refine ent_pick (ent_pick (ent_pickC (by rfl) ?_))
    repeat first | (with_reducible exact ent_drop) | (with_reducible refine ent_pick ?_) | (refine ent_prx ?_ ?_; rotate_left)
    all_goals first | rfl | trivial
  · intro i x hx g
    exact wps_pure (ent_prr rfl (Ent.refl _))
  · intro i x hx t' g
    refine wps_pr fun ht => ?_
    subst ht
    refine wps_exP fun R' => ?_
    simp only [← star_assoc]
    refine wps_prP fun hR => ?_
    refine wps_prP fun hxi => ?_
    have hi : (i : Int) < q.2.1 := by omega
    refine wps_ld q.1 (by rfl) ?_
    refine wps_ld t (by rfl) ?_
    obtain ⟨W, hW⟩ : ∃ W : Nat, q.1 - 1 = (W : Int) := ⟨(q.1 - 1).toNat, by omega⟩
    have hW2 : (q.1 - 1).toNat = W := by omega
    have hWm : i * W ≤ 45 := by
      have : i * W ≤ 3 * 15 := Nat.mul_le_mul (by omega) (by omega)
      omega
    have hm1 : ((i : Int) + 1) * (q.1 - 1) ≤ q.2.1 * (q.1 - 1) := Int.mul_le_mul_of_nonneg_right (by omega) (by omega)
    have hnb2 : (nBlk q : Int) = q.2.1 * (q.1 - 1) := by rw [hnb]; unfold placesI; omega
    rw [hW] at hm1 hnb2
    rw [Int.add_mul, Int.one_mul, ← Int.natCast_mul] at hm1
    have hle : i * W + W ≤ nBlk q := by omega
    have e1 : w64 (q.1 - 1) = (W : Int) := by rw [w64_id] <;> omega
    have e2 : w64 (t'.1 * (W : Int)) = ((i * W : Nat) : Int) := by rw [hxi, ← Int.natCast_mul, w64_id] <;> omega
    have e3 : w64 (w64 (t'.1 + 1) * (W : Int)) = ((i * W + W : Nat) : Int) := by
      rw [hxi, w64_id (n := (i : Int) + 1) (by omega) (by omega), Int.add_mul, Int.one_mul, ← Int.natCast_mul, w64_id] <;> omega
    simp only [e1, e2, e3]
    refine wps_fact (Ent.trans (ent_pick1 (A := own 1 t (sl.map vS))) (own_len _ _ _)) fun ⟨_, htc⟩ => ?_
    refine wps_slice (i * W) (i * W + W) rfl rfl (by omega) (by omega) ?_
    have hsubS : Ent (own 1 t (sl.map vS)) (rsl 1 (subS 1 t (i * W) (i * W + W)) (((sl.drop (i * W)).take W).map vS)) := Ent.trans (own_rsl _ _ _) (Ent.trans (rsl_sub (l := i * W) (h := i * W + W) (by omega) (by omega)) (Ent.of_eq (by
      rw [show i * W + W - i * W = W by omega, Nat.mul_one, Nat.mul_one, ← List.map_drop, ← List.map_take])))
    have hsubQ : Ent (seqp sl fun i => L.getD i []) (seqp ((sl.drop (i * W)).take W) fun j => (rowL q seq l i).getD j []) := by
      have := seqp_sub (sl := sl) (L := L) (i * W) W (by omega)
      have hrl := rowL_eq (q := q) (seq := seq) (l := l) (r := i) hq hi
      rw [hW2, hL] at hrl
      rwa [hrl] at this
    have hown : (subS 1 t (i * W) (i * W + W)).len = W := by rw [subS_len]; omega
    generalize subS 1 t (i * W) (i * W + W) = ow at *
    have hrLl : (rowL q seq l i).length = W := by simp [rowL, hW2]
    have hslW : ((sl.drop (i * W)).take W).length = W := by simp; omega
    have hbk : ∀ k, Byts (encAt seq l k) := fun k => encL_byts (by
      unfold blkAt
      by_cases h : k < l.length
      · rw [List.getD_eq_getElem?_getD, List.getElem?_eq_getElem h]; exact hby _ (List.getElem_mem h)
      · rw [List.getD_eq_getElem?_getD, List.getElem?_eq_none (by omega)]; exact fun n hn => by simp [BlkA.nil] at hn)
    refine wps_bind (sector_Parity_spec (s := ow) (sl := (sl.drop (i * W)).take W) (ls := rowL q seq l i) (Ent.trans (ent_pick1 (A := own 1 t (sl.map vS))) hsubS) (Ent.trans (ent_pick1 (A := seqp sl fun i => L.getD i [])) hsubQ) (by omega) (by omega) (fun b hb => ?_)) fun p => ?_
    · simp only [rowL, hW2, List.mem_map, List.mem_range] at hb
      obtain ⟨j, hj, rfl⟩ := hb
      refine ⟨hbk _, ?_⟩
      rw [encAt_len hall (by omega)]; omega
    simp only [← star_assoc]
    refine wps_prP fun _ => ?_
    refine wps_swap (A := own 1 p.1 (bv ((parL (rowL q seq l i)).getD []))) (B := byt p.1 ((parL (rowL q seq l i)).getD [])) (own_rsl _ _ _) ?_
    refine wps_fact (Ent.trans (ent_pick1 (A := own 2 t'.2 (sv (spotsL q seg i)))) (own_len _ _ _)) fun ⟨hspl, _⟩ => ?_
    have hspl2 := spotsL_len q seg i b1
    rw [sv_len] at hspl
    have htl2 : (t'.2.len : Int) = q.1 := by omega
    refine wps_loop (fun st => ex fun j : Nat => ex fun R2 : Rk => pr (st = (j : Int) ∧ (j : Int) ≤ q.1 ∧ wrAll q m (restW q seg seq l 0) R = wrAll q m ((rowW q seg seq l i).drop j ++ restW q seg seq l (i + 1)) R2) * rowsA ra rc q seg * own 2 t'.2 (sv (spotsL q seg i)) * blocksP s l * bnk bb rb q m * rackP rb R2 ds ps * pc x4 [.pointer (ptr bb)] * pc x8 [.int .i64 0] * pc x9 [.int .i64 q.1, .int .i64 q.2.1, .int .i64 q.2.2] * pc x10 [vS t] * seqp sl (fun i => L.getD i []) * own 1 t (sl.map vS) * byt p.1 ((parL (rowL q seq l i)).getD [])) (fun st => (q.1 - st).toNat) ?_ fun st => ?_
    · refine ent_ex 0 (ent_ex R' ?_)
      repeat first | (with_reducible refine ent_pick ?_) | (refine ent_prq ?_)
      all_goals first | trivial | skip
      refine ⟨rfl, by omega, ?_⟩
      rw [List.drop_zero, ← restW_step (q := q) (seg := seg) (seq := seq) (l := l) (r := i) hx]
      exact hR
    refine wps_ex fun j => wps_ex fun R2 => wps_prP fun ⟨hj, hjn, hR2⟩ => ?_
    refine wps_ite (fun hc => ?_) (fun hc => ?_)
    rotate_left
    · have hje : j = q.1.toNat := by
        have hc1 : ¬ (st < ((t'.2.len : Nat) : Int)) := fun h => hc (decide_eq_true h)
        omega
      refine wps_mapR (wps_pure ?_)
      show Ent _ (rowsA ra rc q seg * ex _)
      refine ent_exr R2 ?_
      simp only [← star_assoc]
      rw [hje, List.drop_of_length_le (by simp [rowW]), List.nil_append] at hR2
      refine ent_pick (ent_pick (ent_pick (ent_pick (ent_pick (ent_pick (ent_pick (ent_pick (ent_pick (ent_prx hR2 ?_)))))))))
      repeat with_reducible exact ent_drop
    have hjq : (j : Int) < q.1 := by have := of_decide_eq_true hc; omega
    have hjl : j < (spotsL q seg i).length := by omega
    have hget : (spotsL q seg i)[j]? = some (spotsL q seg i)[j] := List.getElem?_eq_getElem hjl
    have hgD : (spotsL q seg i).getD j (0, 0) = (spotsL q seg i)[j] := by rw [List.getD_eq_getElem?_getD, hget]; rfl
    have hdrop : (rowW q seg seq l i).drop j = ((spotsL q seg i)[j], datAt q seq l i j) :: (rowW q seg seq l i).drop (j + 1) := by
      rw [List.drop_eq_getElem_cons (by simp [rowW]; omega)]
      congr 1
      simp only [rowW, List.getElem_map, List.getElem_range, hgD]
    rw [hdrop, List.cons_append, wrAll] at hR2
    generalize hsp : (spotsL q seg i)[j] = sp at *
    refine wps_rdA j sp (Ent.trans (ent_pick1 (A := own 2 t'.2 (sv (spotsL q seg i)))) (own_rsl _ _ _)) hj (by simp) (fun o v ho => ?_) ?_
    · have h2 : o < 2 := by have := (List.getElem?_eq_some_iff.1 ho).1; simpa using this
      rw [sv_get hget h2]; exact ho
    refine wps_alloc fun x18 => ?_
    refine wps_stA (by simp) (by simp [Value.oneCell']) ?_
    refine wps_bindS (R := fun b7 => rowsA ra rc q seg * own 2 t'.2 (sv (spotsL q seg i)) * blocksP s l * bnk bb rb q m * rackP rb R2 ds ps * pc x4 [.pointer (ptr bb)] * pc x8 [.int .i64 0] * pc x9 [.int .i64 q.1, .int .i64 q.2.1, .int .i64 q.2.2] * pc x10 [vS t] * seqp sl (fun i => L.getD i []) * own 1 t (sl.map vS) * byt p.1 ((parL (rowL q seq l i)).getD []) * pc x18 [.int .i64 sp.1, .int .i64 sp.2] * byt b7 (datAt q seq l i j)) ?_ fun b7 => ?_
    · refine wps_ite (fun hjw => ?_) (fun hjw => ?_)
      · have hjW : j < W := by have := of_decide_eq_true hjw; omega
        have hgs : ((sl.drop (i * W)).take W)[j]? = some sl[i * W + j] := by rw [List.getElem?_take, if_pos hjW, List.getElem?_drop, List.getElem?_eq_getElem (by omega)]
        refine wps_rd j sl[i * W + j] (Ent.trans (ent_pick1 (A := own 1 t (sl.map vS))) hsubS) hj (by rw [List.getElem?_map, hgs]; rfl) ?_
        have hda : datAt q seq l i j = L.getD (i * W + j) [] := by
          rw [datAt, hW2, if_pos hjW, ← hL, List.getD_eq_getElem?_getD, List.getElem?_map, List.getElem?_range (by omega)]; rfl
        rw [hda]
        refine wps_swap (A := seqp sl fun i => L.getD i []) (B := (seqp sl fun i => L.getD i []) * byt sl[i * W + j] (L.getD (i * W + j) [])) (ent_and (Ent.refl _) (seqp_get (List.getElem?_eq_getElem (by omega)))) ?_
        simp only [← star_assoc]
        refine wps_pure ?_
        show Ent _ (_ * _)
        repeat first | (with_reducible exact ent_drop) | (with_reducible refine ent_pick ?_) | (refine ent_pickC (by rfl) ?_)
      · have hjW : ¬ j < W := fun h2 => hjw (decide_eq_true (by omega))
        have hda : datAt q seq l i j = (parL (rowL q seq l i)).getD [] := by rw [datAt, hW2, if_neg hjW]
        rw [hda]
        refine wps_swap (A := byt p.1 ((parL (rowL q seq l i)).getD [])) (B := byt p.1 ((parL (rowL q seq l i)).getD []) * byt p.1 ((parL (rowL q seq l i)).getD [])) (ent_and (Ent.refl _) (Ent.refl _)) ?_
        simp only [← star_assoc]
        refine wps_pure ?_
        show Ent _ (_ * _)
        refine ent_pick ?_
        repeat first | (with_reducible exact ent_drop) | (with_reducible refine ent_pick ?_) | (refine ent_pickC (by rfl) ?_)
    refine wps_ld (ptr bb) (by rfl) ?_
    refine wps_ld sp.1 (by rfl) ?_
    refine wps_ld sp.2 (by rfl) ?_
    have hdl : (datAt q seq l i j).length ≤ 1099511627776 := by
      unfold datAt
      rw [hW2]
      split
      · rw [encAt_len hall (by omega)]; omega
      · unfold parL
        split
        · rename_i hpo
          have h1 := parSum_len (ls := rowL q seq l i) (rowL q seq l i).length (fun i' _ hi' => by
            rw [List.getElem?_eq_getElem hi']; exact (hpo.2 _ (List.getElem_mem hi')).1) (Nat.le_refl _)
          rw [List.take_length] at h1
          simp only [Option.getD_some, List.length_append, List.length_take, h1]
          split <;> omega
        · simp
    refine wps_call3 (fun _ => bank_Write_spec (H := byt b7 (datAt q seq l i j)) bb rb q m R2 ds ps sp.1 sp.2 b7 (datAt q seq l i j) (Ent.refl _) hdl) fun e => ?_
    simp only [← star_assoc]
    refine wps_prP fun he => ?_
    have he' : e = bgate q m R2 sp (datAt q seq l i j) := he
    have hRw : (if (slotV q m sp.1).2 = true then R2.write (slotV q m sp.1).1 sp.2 (datAt q seq l i j) else R2) = bwrite q m R2 sp (datAt q seq l i j) := rfl
    rw [hRw]
    refine wps_ite (fun h12 => ?_) (fun h12 => ?_)
    · have h12' : bgate q m R2 sp (datAt q seq l i j) = 12 := by rw [← he']; simpa using h12
      rw [if_pos h12'] at hR2
      refine wps_st (by simp) (wps_mapR (wps_pure ?_))
      show Ent _ (rowsA ra rc q seg * ex _)
      refine ent_exr (bwrite q m R2 sp (datAt q seq l i j)) ?_
      simp only [← star_assoc]
      refine ent_pickC (by rfl) (ent_pick (ent_pick (ent_pick (ent_prx hR2 ?_))))
      repeat with_reducible exact ent_drop
    · have h12' : ¬ bgate q m R2 sp (datAt q seq l i j) = 12 := by rw [← he']; simpa using h12
      rw [if_neg h12'] at hR2
      refine wps_pure (ent_prr (by rw [range_add1 hj (by omega)]; omega) (ent_ex (j + 1) (ent_ex (bwrite q m R2 sp (datAt q seq l i j)) ?_)))
      repeat first | (with_reducible refine ent_pick ?_) | (refine ent_prq ?_)
      all_goals first | exact ⟨range_add1 hj (by omega), by omega, hR2⟩ | trivial
  · intro D
    refine wps_exP fun R' => ?_
    simp only [← star_assoc]
    refine wps_prP fun hR => ?_
    rw [restW_end, wrAll] at hR
    rw [hR]
    refine wps_ld (ptr bb) (by rfl) ?_
    refine wps_call2 (fun _ => bank_Bad_spec bb rb q m R' ds ps b2) fun bd2 => ?_
    simp only [← star_assoc]
    refine wps_fact (Ent.trans (ent_pick1 (A := own 1 bd2 (iv (badL q m R')))) (own_len _ _ _)) fun ⟨hbl2, _⟩ => ?_
    have hbl2' : (badL q m R').length = bd2.len := by simpa [iv] using hbl2
    by_cases hbad2 : 1 < (badL q m R').length
    · refine wps_ite (fun _ => ?_) (fun h => absurd (by simp; omega) h)
      refine wps_st (by simp) ?_
      refine wps_take ?_
      refine wps_ld 14 (by rfl) (wps_pure ?_)
      simp only [Bool.false_eq_true, if_false, hbad2, if_true]
      repeat first | (with_reducible refine ent_pick ?_) | (refine ent_prq ?_)
      all_goals first | rfl | trivial
    · refine wps_ite (fun h => absurd h (by simp; omega)) (fun _ => ?_)
      refine wps_st (by simp) ?_
      refine wps_take ?_
      refine wps_ld 0 (by rfl) (wps_pure ?_)
      simp only [Bool.false_eq_true, if_false, hbad2]
      repeat first | (with_reducible refine ent_pick ?_) | (refine ent_prq ?_)
      all_goals first | rfl | trivial
  · intro D
    refine wps_exP fun R' => ?_
    simp only [← star_assoc]
    refine wps_prP fun hR => ?_
    rw [hR]
    refine wps_take ?_
    refine wps_ld 12 (by rfl) (wps_pure ?_)
    simp only [if_true]
    repeat first | (with_reducible refine ent_pick ?_) | (refine ent_prq ?_)
    all_goals first | rfl | trivial
  · intro D id
    exact wps_false (fun o ho => by
      have := ent_right _ _ o (ent_left _ _ o ho)
      exact ent_right _ _ o this)
end Go.Proofs.Ytldmeimebebllaa
namespace Go.Proofs.Ytldmeimebebllaa
open Go.Mo
set_option linter.unusedVariables false
variable {g : Fr} {cv : CV}
def Dk.bys (D : Dk) : Prop := (∀ k, Byts (D.lasts k)) ∧ ∀ j b, D.cached j = some b → Byts b
def Rk.bys (R : Rk) : Prop := ∀ j, (R.dk j).bys
theorem Dk.bys.sec {D : Dk} (h : D.bys) (s : Int) : Byts (D.sec s) := by
  unfold Dk.sec
  cases hc : D.cached s with
  | some b => exact h.2 s b hc
  | none => exact h.1 _
theorem Rk.bys.rd {R : Rk} (h : R.bys) (k s : Int) : Byts (R.rd k s) := by
  unfold Rk.rd; split
  · exact (h _).sec s
  · exact fun n hn => by simp at hn
def brdE (q m : G3) (R : Rk) (s : Int × Int) : Int := if (slotV q m s.1).2 then R.rdErr (slotV q m s.1).1 s.2 else 11
def brd (q m : G3) (R : Rk) (s : Int × Int) : List Int := if (slotV q m s.1).2 then R.rd (slotV q m s.1).1 s.2 else []
theorem brd_byts {q m : G3} {R : Rk} (h : R.bys) (s : Int × Int) : Byts (brd q m R s) := by
  unfold brd; split
  · exact h.rd _ _
  · exact fun n hn => by simp at hn
theorem brd_len {q m : G3} {R : Rk} (h : R.good) (s : Int × Int) : (brd q m R s).length ≤ 64 := by
  unfold brd; split
  · exact h.rd _ _
  · simp
def goodV (q m : G3) (R : Rk) (s : Int × Int) (seq : Int) : List Int × Bool := if brdE q m R s = 0 then (brd q m R s, (headOf (brd q m R s)).1 == seq) else ([], false)
theorem goodV_byts {q m : G3} {R : Rk} (h : R.bys) (s : Int × Int) (seq : Int) : Byts (goodV q m R s seq).1 := by
  unfold goodV; split
  · exact brd_byts h s
  · exact fun n hn => by simp at hn
theorem goodV_len {q m : G3} {R : Rk} (h : R.good) (s : Int × Int) (seq : Int) : (goodV q m R s seq).1.length ≤ 64 := by
  unfold goodV; split
  · exact brd_len h s
  · simp
theorem stripe_good_spec (bb rb : Nat) (q m : G3) (R : Rk) (hby : R.bys) (ds : Slc) (ps : List Nat) (s : Int × Int) (seq : Int) :
    wps g (bnk bb rb q m * rackP rb R ds ps) (stripe_good (ptr bb) s seq) (fun x => pr (x.2 = (goodV q m R s seq).2) * bnk bb rb q m * rackP rb R ds ps * own 1 x.1 (bv (goodV q m R s seq).1)) := by
  unfold stripe_good
  refine wps_fact (Ent.trans (ent_right _ _) rackP_good) fun hg => ?_
  refine wps_alloc fun c => ?_
  refine wps_ld s.1 (by rfl) ?_
  refine wps_ld s.2 (by rfl) ?_
  refine wps_call2 (fun _ => bank_Read_spec bb rb q m R ds ps s.1 s.2) fun x => ?_
  simp only [← star_assoc]
  refine wps_prP fun hx => ?_
  have hx' : x.2 = brdE q m R s := hx
  have hbr : (if (slotV q m s.1).2 = true then R.rd (slotV q m s.1).1 s.2 else []) = brd q m R s := rfl
  rw [hbr]
  by_cases h0 : brdE q m R s = 0
  rotate_left
  · rw [goodV, if_neg h0]
    refine wps_ite (fun _ => wps_pure ?_) (fun h => absurd (by simp [hx', h0]) h)
    refine ent_own0 ?_
    repeat first | (with_reducible refine ent_pick ?_) | (refine ent_prq ?_)
    all_goals first | rfl | trivial
  rw [goodV, if_pos h0]
  refine wps_ite (fun h => absurd h (by simp [hx', h0])) (fun _ => ?_)
  refine wps_bind (sector_Decode_spec (s := x.1) (b := brd q m R s) (Ent.trans (ent_pick1 (A := own 1 x.1 (bv (brd q m R s)))) (own_rsl _ _ _)) (brd_byts hby s) (by have := brd_len (q := q) (m := m) hg s; omega)) fun y => ?_
  simp only [← star_assoc]
  refine wps_prP fun ⟨hy, _⟩ => ?_
  refine wps_alloc fun d => ?_
  refine wps_stA (by simp) (by simp [Value.oneCell']) ?_
  refine wps_regionH ?_
  refine wps_ldI y.1.1 (by rfl) (wps_pure ?_)
  rw [hy]
  repeat first | (with_reducible refine ent_pick ?_) | (refine ent_prq ?_)
  all_goals first | rfl | trivial
def othL (q m : G3) (R : Rk) (lost : Int × Int) (seq : Int) : List (Int × Int) → Option (List (List Int))
  | [] => some []
  | s :: ss => if s = lost then othL q m R lost seq ss else if (goodV q m R s seq).2 = true then (othL q m R lost seq ss).map fun l => (goodV q m R s seq).1 :: l else none
def othV (q m : G3) (R : Rk) (lost : Int × Int) (seq : Int) (l : List (Int × Int)) : List Int × Bool := match othL q m R lost seq l with | none => ([], false) | some ls => ((parL ls).getD [], (parL ls).isSome)
structure OthI (q m : G3) (R : Rk) (lost : Int × Int) (seq : Int) (l : List (Int × Int)) (i : Nat) (st : Slc × Int) (sl : List Slc) (ls : List (List Int)) : Prop where
  hi : st.2 = (i : Int)
  le : i ≤ l.length
  oth : othL q m R lost seq l = (othL q m R lost seq (l.drop i)).map (fun l => ls ++ l)
  hsl : sl.length = ls.length
  lsi : ls.length ≤ i
  len : st.1.len = sl.length
  bs : ∀ b ∈ ls, Byts b ∧ b.length ≤ 64
theorem stripe_others_spec (bb rb : Nat) (q m : G3) (R : Rk) (hby : R.bys) (ds : Slc) (ps : List Nat) (r : Slc) (l : List (Int × Int)) (hl : l.length ≤ 1000) (lost : Int × Int) (seq : Int) {H : HP} (hr : Ent H (rsl 2 r (sv l))) :
    wps g (H * bnk bb rb q m * rackP rb R ds ps) (stripe_others (ptr bb) r lost seq) (fun x => pr (x.2 = (othV q m R lost seq l).2) * H * bnk bb rb q m * rackP rb R ds ps * own 1 x.1 (bv (othV q m R lost seq l).1)) := by
  unfold stripe_others
  refine wps_fact (Ent.trans (ent_right _ _) rackP_good) fun hg => ?_
  refine wps_fact (Ent.trans (ent_left _ _) (Ent.trans (ent_left _ _) (Ent.trans hr (rsl_len _ _ _)))) fun hrl => ?_
  rw [sv_len] at hrl
  refine wps_alloc fun c => ?_
  refine wps_loop (fun st => ex fun i : Nat => ex fun sl : List Slc => ex fun ls : List (List Int) => pr (OthI q m R lost seq l i st sl ls) * H * bnk bb rb q m * rackP rb R ds ps * pc c [.int .i64 lost.1, .int .i64 lost.2] * seqp sl (fun j => ls.getD j []) * own 1 st.1 (sl.map vS)) (fun st => (l.length - st.2).toNat) ?_ fun st => ?_
  · refine ent_ex 0 (ent_ex [] (ent_ex [] (ent_own0 (ent_pers ?_ (seqp_nil _ _)))))
    repeat first | (with_reducible refine ent_pick ?_) | (refine ent_prq ?_)
    all_goals first | trivial | skip
    refine ⟨rfl, by omega, ?_, rfl, by simp, rfl, by simp⟩
    rw [List.drop_zero]
    cases othL q m R lost seq l <;> simp
  refine wps_ex fun i => wps_ex fun sl => wps_ex fun ls => ?_
  refine wps_prP fun ⟨hi, hin, ho, hsl, hlsi, hstl, hbs⟩ => ?_
  refine wps_ite (fun hc => ?_) (fun hc => ?_)
  · have hlt : i < l.length := by have := of_decide_eq_true hc; omega
    have hget : l[i]? = some l[i] := List.getElem?_eq_getElem hlt
    rw [List.drop_eq_getElem_cons hlt, othL] at ho
    generalize hsp : l[i] = sp at *
    refine wps_rdA i sp (Ent.trans (ent_pick1 (A := H)) hr) hi (by simp) (fun o v ho => ?_) ?_
    · have h2 : o < 2 := by have := (List.getElem?_eq_some_iff.1 ho).1; simpa using this
      rw [sv_get hget h2]; exact ho
    refine wps_alloc fun x12 => ?_
    refine wps_stA (by simp) (by simp [Value.oneCell']) ?_
    refine wps_ldA sp (by rfl) ?_
    refine wps_ldA lost (by rfl) ?_
    have heq : eq2 (sp.1, sp.2) (lost.1, lost.2) = decide (sp = lost) := by
      unfold eq2
      by_cases h : sp = lost
      · subst h; simp
      · rw [decide_eq_false h]
        by_cases h1 : sp.1 = lost.1
        · have h2 : ¬ sp.2 = lost.2 := fun h2 => h (Prod.ext h1 h2)
          simp [h2]
        · simp [h1]
    rw [heq]
    by_cases hsl2 : sp = lost
    · rw [if_pos hsl2] at ho
      refine wps_ite (fun _ => wps_pure ?_) (fun h => absurd (decide_eq_true hsl2) h)
      refine ent_prr (by (try dsimp only); rw [range_add1 hi (by omega)]; omega) (ent_ex (i + 1) (ent_ex sl (ent_ex ls ?_)))
      repeat first | (with_reducible refine ent_pick ?_) | (refine ent_prq ?_)
      all_goals first | exact ⟨range_add1 hi (by omega), by omega, ho, hsl, by omega, hstl, hbs⟩ | trivial
    · rw [if_neg hsl2] at ho
      refine wps_ite (fun h => absurd (of_decide_eq_true h) hsl2) (fun _ => ?_)
      refine wps_ldA sp (by rfl) ?_
      refine wps_call2 (fun _ => stripe_good_spec bb rb q m R hby ds ps sp seq) fun x => ?_
      simp only [← star_assoc]
      refine wps_prP fun hx => ?_
      by_cases hgo : (goodV q m R sp seq).2 = true
      rotate_left
      · rw [if_neg hgo] at ho
        have hov : othV q m R lost seq l = ([], false) := by unfold othV; rw [ho]; rfl
        refine wps_ite (fun _ => wps_mapR (wps_pure ?_)) (fun h => absurd (by rw [hx]; simpa using hgo) h)
        show Ent _ (pr (false = _) * _ * _ * _ * _)
        rw [hov]
        refine ent_own0 ?_
        repeat first | (with_reducible refine ent_pick ?_) | (refine ent_prq ?_)
        all_goals first | rfl | trivial
      rw [if_pos hgo] at ho
      refine wps_ite (fun h => absurd h (by rw [hx]; simp [hgo])) (fun _ => ?_)
      refine wps_alloc fun y => ?_
      refine wps_app 1 [vS x.1] rfl (by decide) (rsl_pc rfl) (by simp [Value.oneCell', vS]) (by (try dsimp only); omega) fun t2 ht2 => wps_pure ?_
      have ht3 : t2.len = st.1.len + 1 := ht2
      refine ent_prr (by (try dsimp only); rw [range_add1 hi (by omega)]; omega) (ent_ex (i + 1) (ent_ex (sl ++ [x.1]) (ent_ex (ls ++ [(goodV q m R sp seq).1]) ?_)))
      refine ent_pickS (by simp) ?_
      refine ent_swap (A := own 1 x.1 (bv (goodV q m R sp seq).1)) (B := byt x.1 (goodV q m R sp seq).1) (own_rsl _ _ _) ?_
      refine ent_join (A := seqp sl fun j => ls.getD j []) (B := byt x.1 (goodV q m R sp seq).1) (seqp_snocL hsl) ?_
      repeat first | (with_reducible refine ent_pick ?_) | (refine ent_prq ?_)
      all_goals first | trivial | skip
      refine ⟨range_add1 hi (by omega), by omega, ?_, by simp [hsl], by simp; omega, by simp [ht3, hstl], fun b hb => ?_⟩
      · rw [ho]
        cases othL q m R lost seq (l.drop (i + 1)) <;> simp
      · rcases List.mem_append.1 hb with hb | hb
        · exact hbs b hb
        · obtain rfl : b = (goodV q m R sp seq).1 := by simpa using hb
          exact ⟨goodV_byts hby _ _, goodV_len hg _ _⟩
  · have hie : i = l.length := by
      have hc1 : ¬ (st.2 < ((r.len : Nat) : Int)) := fun h => hc (decide_eq_true h)
      omega
    rw [hie, List.drop_length, othL] at ho
    have hov : othV q m R lost seq l = ((parL ls).getD [], (parL ls).isSome) := by unfold othV; rw [ho]; simp
    refine wps_mapR ?_
    unfold sector_Restore
    refine wps_assoc ?_
    refine wps_bind (sector_Parity_spec (s := st.1) (sl := sl) (ls := ls) (Ent.trans (ent_pick1 (A := own 1 st.1 (sl.map vS))) (own_rsl _ _ _)) (ent_pick1 (A := seqp sl fun j => ls.getD j [])) hsl (by omega) (fun b hb => ⟨(hbs b hb).1, by have := (hbs b hb).2; omega⟩)) fun p => ?_
    simp only [← star_assoc]
    refine wps_prP fun hp => ?_
    refine wps_pure ?_
    rw [hov]
    repeat first | (with_reducible refine ent_pick ?_) | (refine ent_pickS (by rfl) ?_) | (refine ent_prq ?_)
    all_goals first | exact hp | trivial
end Go.Proofs.Ytldmeimebebllaa
namespace Go.Proofs.Ytldmeimebebllaa
open Go.Mo
set_option linter.unusedVariables false
variable {g : Fr} {cv : CV}
theorem slices_Contains_val {H : HP} {s : Slc} {l : List Int} (v : Int) (hs : Ent H (rsl 1 s (zv l))) (hl : l.length ≤ 1000000) : Val g H (slices_Contains_i s v) (decide (v ∈ l)) := by
  unfold slices_Contains_i slices_Index_i
  refine wps_fact (Ent.trans hs (rsl_len _ _ _)) fun hsl => ?_
  have hsl' : l.length = s.len := by simpa [zv] using hsl
  refine wps_bind (R := fun x => pr (decide (x ≥ 0) = decide (v ∈ l)) * H) ?_ fun x => wps_pr fun hx => wps_pure (ent_prr hx (Ent.refl _))
  refine wps_loop (fun st => ex fun i : Nat => pr (st = (i : Int) ∧ i ≤ l.length ∧ v ∉ l.take i) * H) (fun st => (l.length - st).toNat) (ent_ex 0 (ent_prr ⟨rfl, by omega, by simp⟩ (Ent.refl _))) fun st => ?_
  refine wps_ex fun i => wps_pr fun ⟨hi, hin, hno⟩ => ?_
  refine wps_ite (fun hc => ?_) (fun hc => ?_)
  · have hlt : i < l.length := by have := of_decide_eq_true hc; omega
    refine wps_rd i l[i] hs hi (by simp [zv, List.getElem?_eq_getElem hlt]) ?_
    by_cases hv : v = l[i]
    · refine wps_ite (fun _ => wps_mapR (wps_pure (ent_prr ?_ (Ent.refl _)))) (fun h => absurd (by simpa using hv) h)
      rw [decide_eq_true (by omega : st ≥ 0), decide_eq_true]
      rw [hv]; exact List.getElem_mem hlt
    · refine wps_ite (fun h => absurd (by simpa using h) hv) (fun _ => wps_pure ?_)
      refine ent_prr (by rw [range_add1 hi (by omega)]; omega) (ent_ex (i + 1) (ent_prr ⟨range_add1 hi (by omega), by omega, fun hm => ?_⟩ (Ent.refl _)))
      rw [List.take_add_one, List.getElem?_eq_getElem hlt] at hm
      rcases List.mem_append.1 hm with hm | hm
      · exact hno hm
      · exact hv (by simpa using hm)
  · have hie : i = l.length := by
      have hc1 : ¬ (st < ((s.len : Nat) : Int)) := fun h => hc (decide_eq_true h)
      omega
    rw [hie, List.take_length] at hno
    refine wps_mapR (wps_pure (ent_prr ?_ (Ent.refl _)))
    rw [decide_eq_false hno]; rfl
def thereE (q : G3) (R : Rk) (seg : Int) : Int := if ¬ (0 ≤ seg ∧ seg < q.2.2) then 28 else if R.off then 12 else 0
theorem stripe_there_val (bb rb : Nat) (q m : G3) (R : Rk) (ds : Slc) (ps : List Nat) (seg : Int) : Val g (bnk bb rb q m * rackP rb R ds ps) (stripe_there (ptr bb) seg) (thereE q R seg) := by
  unfold stripe_there
  refine wps_val (v := decide (¬ (0 ≤ seg ∧ seg < q.2.2))) ?_ ?_
  · refine wps_ite (fun h => wps_pure (ent_prr ?_ (Ent.refl _))) (fun h => ?_)
    · have := of_decide_eq_true h
      exact (decide_eq_true (by omega)).symm
    · have h' : ¬ seg < 0 := fun h2 => h (decide_eq_true h2)
      refine wps_valH (fun _ => bank_Geo_val bb rb q m) (wps_pure (ent_prr ?_ (Ent.refl _)))
      exact decide_eq_decide.2 (by omega)
  refine wps_ite (fun h => wps_pure (ent_prr ?_ (Ent.refl _))) (fun h => ?_)
  · rw [thereE, if_pos (of_decide_eq_true h)]
  · have h' : ¬ ¬ (0 ≤ seg ∧ seg < q.2.2) := fun h2 => h (decide_eq_true h2)
    refine wps_val2 (fun _ => bank_Off_val bb rb q m R ds ps) ?_
    rw [thereE, if_neg h']
    exact wps_ite (fun ho => wps_pure (ent_prr (by rw [if_pos ho]) (Ent.refl _))) (fun ho => wps_pure (ent_prr (by rw [if_neg ho]) (Ent.refl _)))
def whL (q m : G3) (R : Rk) (bad : List Int) : List (Int × Int) → Int → Option Int
  | [], s => some s
  | sp :: ss, s => if sp.1 ∈ bad then whL q m R bad ss s else if brdE q m R sp ≠ 0 ∨ (headOf (brd q m R sp)).1 = 0 ∨ (s ≠ 0 ∧ (headOf (brd q m R sp)).1 ≠ s) then none else whL q m R bad ss (headOf (brd q m R sp)).1
def allS (q : G3) (seg : Int) (r : Nat) : List (Int × Int) := ((List.range q.2.1.toNat).drop r).flatMap (spotsL q seg)
theorem allS_step {q : G3} {seg : Int} {r : Nat} (h : r < q.2.1.toNat) : allS q seg r = spotsL q seg r ++ allS q seg (r + 1) := by
  unfold allS
  rw [List.drop_eq_getElem_cons (by simpa using h)]
  simp
theorem allS_end {q : G3} {seg : Int} : allS q seg q.2.1.toNat = [] := by
  unfold allS
  rw [List.drop_of_length_le (by simp)]; rfl
def badI (q m : G3) (R : Rk) : List Int := (badL q m R).map fun i : Nat => (i : Int)
def sWhole (q m : G3) (R : Rk) (seg : Int) : Int × Bool × Int :=
  if thereE q R seg ≠ 0 then (0, false, thereE q R seg) else if 1 < (badL q m R).length then (0, false, 0)
  else match whL q m R (badI q m R) (allS q seg 0) 0 with | some s => (s, true, 0) | none => (0, false, 0)
theorem stripe_Whole_spec (hcv : RowsOk cv) (bb rb : Nat) (q m : G3) (hq : RightB q = true) (R : Rk) (hby : R.bys) (ds : Slc) (ps : List Nat) (seg : Int) :
    wps g (bnk bb rb q m * rackP rb R ds ps) (stripe_Whole cv (ptr bb) seg) (fun x => pr (x = sWhole q m R seg) * bnk bb rb q m * rackP rb R ds ps) := by
  unfold stripe_Whole
  have hb := RightB.bnd hq
  have b1 := hb.d3
  have b2 := hb.d16
  have b3 := hb.r1
  have b4 := hb.r4
  refine wps_fact (Ent.trans (ent_right _ _) rackP_good) fun hg => ?_
  refine wps_alloc fun x2 => ?_
  refine wps_alloc fun x4 => ?_
  refine wps_alloc fun x5 => ?_
  refine wps_alloc fun x6 => ?_
  refine wps_ld (ptr bb) (by rfl) ?_
  refine wps_val2 (fun _ => stripe_there_val bb rb q m R ds ps seg) ?_
  by_cases ht : thereE q R seg = 0
  rotate_left
  · have hsw : sWhole q m R seg = (0, false, thereE q R seg) := if_pos ht
    rw [hsw]
    refine wps_ite (fun _ => ?_) (fun h => absurd (by simpa using ht) h)
    refine wps_st (by simp) ?_
    refine wps_st (by simp) ?_
    refine wps_st (by simp) ?_
    refine wps_ld 0 (by rfl) ?_
    refine wps_ld false (by rfl) ?_
    refine wps_ld (thereE q R seg) (by rfl) (wps_pure ?_)
    repeat first | (with_reducible refine ent_pick ?_) | (refine ent_prq ?_)
    all_goals first | rfl | trivial
  refine wps_ite (fun h => absurd h (by simp [ht])) (fun _ => ?_)
  have hseg : 0 ≤ seg ∧ seg < q.2.2 := by
    unfold thereE at ht
    split at ht
    · cases ht
    · rename_i h; exact Classical.not_not.1 h
  refine wps_ld (ptr bb) (by rfl) ?_
  refine wps_call2 (fun _ => bank_Bad_spec bb rb q m R ds ps b2) fun bd => ?_
  simp only [← star_assoc]
  refine wps_fact (Ent.trans (ent_pick1 (A := own 1 bd (iv (badL q m R)))) (own_len _ _ _)) fun ⟨hbl, _⟩ => ?_
  have hbl' : (badL q m R).length = bd.len := by simpa [iv] using hbl
  refine wps_alloc fun x8 => ?_
  refine wps_st (by simp) ?_
  refine wps_ld bd (by rfl) ?_
  by_cases hbad : 1 < (badL q m R).length
  · have hsw : sWhole q m R seg = (0, false, 0) := by unfold sWhole; rw [if_neg (by simp [ht]), if_pos hbad]
    rw [hsw]
    refine wps_ite (fun _ => ?_) (fun h => absurd (by simp; omega) h)
    refine wps_st (by simp) ?_
    refine wps_st (by simp) ?_
    refine wps_st (by simp) ?_
    refine wps_ld 0 (by rfl) ?_
    refine wps_ld false (by rfl) ?_
    refine wps_ld 0 (by rfl) (wps_pure ?_)
    repeat first | (with_reducible refine ent_pick ?_) | (refine ent_prq ?_)
    all_goals first | rfl | trivial
  have hsw : sWhole q m R seg = match whL q m R (badI q m R) (allS q seg 0) 0 with | some s => (s, true, 0) | none => (0, false, 0) := by unfold sWhole; rw [if_neg (by simp [ht]), if_neg hbad]
  rw [hsw]
  refine wps_ite (fun h => absurd h (by simp; omega)) (fun _ => ?_)
  refine wps_alloc fun x9 => ?_
  refine wps_st (by simp) ?_
  refine wps_ld (ptr bb) (by rfl) ?_
  refine wps_valH (fun _ => bank_Geo_val bb rb q m) ?_
  refine wps_bind (stripe_rows_spec q seg) fun v => ?_
  refine wps_ex fun ra => wps_ex fun rc => ?_
  rw [star_assoc, star_assoc]
  refine wps_pr fun hv => ?_
  subst hv
  rw [iv_zv]
  have hbi : badI q m R = (badL q m R).map fun i : Nat => (i : Int) := rfl
  rw [← hbi]
  refine wps_rangeX (F := emp)
    (fun i => ex fun s : Int => pr (whL q m R (badI q m R) (allS q seg 0) 0 = whL q m R (badI q m R) (allS q seg i) s) * bnk bb rb q m * rackP rb R ds ps * pc x2 [.pointer (ptr bb)] * pc x4 [.int .i64 0] * pc x5 [.bool false] * pc x6 [.int .i64 0] * pc x8 [vS bd] * pc x9 [.int .i64 s] * own 1 bd (zv (badI q m R)))
    (fun j => match j with | .ret => pr (whL q m R (badI q m R) (allS q seg 0) 0 = none) * bnk bb rb q m * rackP rb R ds ps * pc x4 [.int .i64 0] * pc x5 [.bool false] * pc x6 [.int .i64 0] | .exit _ => pr False)
    (fun i x t' => pr (t' = x.2) * (rowsA ra rc q seg * (rowsX q seg i x * ex fun s : Int => pr (whL q m R (badI q m R) (allS q seg 0) 0 = whL q m R (badI q m R) (allS q seg i) s) * bnk bb rb q m * rackP rb R ds ps * pc x2 [.pointer (ptr bb)] * pc x4 [.int .i64 0] * pc x5 [.bool false] * pc x6 [.int .i64 0] * pc x8 [vS bd] * pc x9 [.int .i64 s] * own 1 bd (zv (badI q m R)))))
    (rows_iter hcv ra rc q seg ⟨hq, hseg.1, hseg.2⟩) ?_ ?_ ?_ ?_ ?_ ?_
  · refine Ent.trans ?_ (Ent.of_eq (emp_star _).symm)
    refine ent_exr 0 ?_
    simp only [← star_assoc]
    refine ent_pick (ent_pickC (by rfl) (ent_pickC (by rfl) ?_))
    repeat first | (with_reducible exact ent_drop) | (with_reducible refine ent_pick ?_) | (refine ent_prx ?_ ?_; rotate_left)
    all_goals first | rfl | trivial
  · intro i x hx g
    exact wps_pure (ent_prr rfl (Ent.refl _))
  · intro i x hx t' g
    refine wps_pr fun ht => ?_
    subst ht
    refine wps_exP fun s0 => ?_
    simp only [← star_assoc]
    refine wps_prP fun hR => ?_
    refine wps_prP fun hxi => ?_
    refine wps_fact (Ent.trans (ent_pick1 (A := own 2 x.2 (sv (spotsL q seg i)))) (own_len _ _ _)) fun ⟨hspl, _⟩ => ?_
    have hspl2 := spotsL_len q seg i b1
    rw [sv_len] at hspl
    have hbil : (badI q m R).length ≤ 16 := by rw [hbi]; simp only [List.length_map]; exact badL_len q m R b2
    refine wps_loop (fun st => ex fun j : Nat => ex fun s1 : Int => pr (st = (j : Int) ∧ j ≤ (spotsL q seg i).length ∧ whL q m R (badI q m R) (allS q seg 0) 0 = whL q m R (badI q m R) ((spotsL q seg i).drop j ++ allS q seg (i + 1)) s1) * rowsA ra rc q seg * own 2 x.2 (sv (spotsL q seg i)) * bnk bb rb q m * rackP rb R ds ps * pc x2 [.pointer (ptr bb)] * pc x4 [.int .i64 0] * pc x5 [.bool false] * pc x6 [.int .i64 0] * pc x8 [vS bd] * pc x9 [.int .i64 s1] * own 1 bd (zv (badI q m R))) (fun st => ((spotsL q seg i).length - st).toNat) ?_ fun st => ?_
    · refine ent_ex 0 (ent_ex s0 ?_)
      repeat first | (with_reducible refine ent_pick ?_) | (refine ent_prq ?_)
      all_goals first | trivial | skip
      refine ⟨rfl, by omega, ?_⟩
      rw [List.drop_zero, ← allS_step (q := q) (seg := seg) (r := i) hx]
      exact hR
    refine wps_ex fun j => wps_ex fun s1 => wps_prP fun ⟨hj, hjn, hR2⟩ => ?_
    refine wps_ite (fun hc => ?_) (fun hc => ?_)
    rotate_left
    · have hje : j = (spotsL q seg i).length := by
        have hc1 : ¬ (st < ((x.2.len : Nat) : Int)) := fun h => hc (decide_eq_true h)
        omega
      refine wps_mapR (wps_pure ?_)
      show Ent _ (rowsA ra rc q seg * ex _)
      refine ent_exr s1 ?_
      simp only [← star_assoc]
      rw [hje, List.drop_length, List.nil_append] at hR2
      refine ent_pick (ent_pick (ent_pick (ent_pick (ent_pick (ent_pick (ent_pick (ent_pick (ent_pick (ent_prx hR2 ?_)))))))))
      repeat with_reducible exact ent_drop
    have hjl : j < (spotsL q seg i).length := by have := of_decide_eq_true hc; omega
    have hget : (spotsL q seg i)[j]? = some (spotsL q seg i)[j] := List.getElem?_eq_getElem hjl
    rw [List.drop_eq_getElem_cons hjl, List.cons_append, whL] at hR2
    generalize hsp : (spotsL q seg i)[j] = sp at *
    refine wps_rdA j sp (Ent.trans (ent_pick1 (A := own 2 x.2 (sv (spotsL q seg i)))) (own_rsl _ _ _)) hj (by simp) (fun o v ho => ?_) ?_
    · have h2 : o < 2 := by have := (List.getElem?_eq_some_iff.1 ho).1; simpa using this
      rw [sv_get hget h2]; exact ho
    refine wps_alloc fun x13 => ?_
    refine wps_stA (by simp) (by simp [Value.oneCell']) ?_
    refine wps_ld bd (by rfl) ?_
    refine wps_ld sp.1 (by rfl) ?_
    refine wps_val (slices_Contains_val (l := badI q m R) sp.1 (Ent.trans (ent_pick1 (A := own 1 bd (zv (badI q m R)))) (own_rsl _ _ _)) (by omega)) ?_
    by_cases hm : sp.1 ∈ badI q m R
    · rw [if_pos hm] at hR2
      refine wps_ite (fun _ => wps_pure ?_) (fun h => absurd (decide_eq_true hm) h)
      refine ent_prr (by rw [range_add1 hj (by omega)]; omega) (ent_ex (j + 1) (ent_ex s1 ?_))
      repeat first | (with_reducible refine ent_pick ?_) | (refine ent_prq ?_)
      all_goals first | exact ⟨range_add1 hj (by omega), by omega, hR2⟩ | trivial
    rw [if_neg hm] at hR2
    refine wps_ite (fun h => absurd (of_decide_eq_true h) hm) (fun _ => ?_)
    refine wps_ld (ptr bb) (by rfl) ?_
    refine wps_ld sp.1 (by rfl) ?_
    refine wps_ld sp.2 (by rfl) ?_
    refine wps_call2 (fun _ => bank_Read_spec bb rb q m R ds ps sp.1 sp.2) fun y => ?_
    simp only [← star_assoc]
    refine wps_prP fun hy => ?_
    have hy' : y.2 = brdE q m R sp := hy
    have hbr : (if (slotV q m sp.1).2 = true then R.rd (slotV q m sp.1).1 sp.2 else []) = brd q m R sp := rfl
    rw [hbr]
    refine wps_bind (sector_Decode_spec (s := y.1) (b := brd q m R sp) (Ent.trans (ent_pick1 (A := own 1 y.1 (bv (brd q m R sp)))) (own_rsl _ _ _)) (brd_byts hby sp) (by have := brd_len (q := q) (m := m) hg sp; omega)) fun z => ?_
    simp only [← star_assoc]
    refine wps_prP fun ⟨hz, _⟩ => ?_
    rw [hz]
    generalize hh : headOf (brd q m R sp) = hd at *
    refine wps_alloc fun x16 => ?_
    refine wps_stA (by simp) (by simp [Value.oneCell']) ?_
    rw [hy']
    refine wps_val (v := decide (brdE q m R sp ≠ 0 ∨ hd.1 = 0)) (wps_ite (fun h => wps_pure (ent_prr ?_ (Ent.refl _))) (fun h => wps_ld hd.1 (by rfl) (wps_pure (ent_prr ?_ (Ent.refl _))))) ?_
    · exact (decide_eq_true (.inl (by simpa using h))).symm
    · have h' : brdE q m R sp = 0 := by simpa using h
      by_cases he : hd.1 = 0 <;> simp [h', he]
    refine wps_val (v := decide (brdE q m R sp ≠ 0 ∨ hd.1 = 0 ∨ (s1 ≠ 0 ∧ hd.1 ≠ s1))) ?_ ?_
    · refine wps_ite (fun h => wps_pure (ent_prr ?_ (Ent.refl _))) (fun h => ?_)
      · have := of_decide_eq_true h
        exact (decide_eq_true (this.elim .inl fun h => .inr (.inl h))).symm
      · have h' : ¬ (brdE q m R sp ≠ 0 ∨ hd.1 = 0) := fun h2 => h (decide_eq_true h2)
        refine wps_ld s1 (by rfl) ?_
        refine wps_val (v := decide (s1 ≠ 0 ∧ hd.1 ≠ s1)) ?_ (wps_pure (ent_prr ?_ (Ent.refl _)))
        · refine wps_ite (fun h1 => ?_) (fun h1 => wps_pure (ent_prr ?_ (Ent.refl _)))
          · refine wps_ld hd.1 (by rfl) ?_
            refine wps_ld s1 (by rfl) (wps_pure (ent_prr ?_ (Ent.refl _)))
            have h1' : s1 ≠ 0 := by simpa using h1
            by_cases he : hd.1 = s1 <;> simp [h1', he]
          · have h1' : s1 = 0 := by simpa using h1
            simp [h1']
        · exact decide_eq_decide.2 ⟨fun h => .inr (.inr h), fun h => h.elim (fun h => absurd (.inl h) h') fun h => h.elim (fun h => absurd (.inr h) h') id⟩
    by_cases hcond : brdE q m R sp ≠ 0 ∨ hd.1 = 0 ∨ (s1 ≠ 0 ∧ hd.1 ≠ s1)
    · rw [if_pos hcond] at hR2
      refine wps_ite (fun _ => ?_) (fun h => absurd (decide_eq_true hcond) h)
      refine wps_st (by simp) ?_
      refine wps_st (by simp) ?_
      refine wps_st (by simp) (wps_mapR (wps_pure ?_))
      show Ent _ (rowsA ra rc q seg * (_ * _ * _ * _ * _ * _))
      simp only [← star_assoc]
      refine ent_pickC (by rfl) (ent_pickC (by rfl) (ent_pickC (by rfl) (ent_pick (ent_pick (ent_prx hR2 ?_)))))
      repeat with_reducible exact ent_drop
    · rw [if_neg hcond] at hR2
      refine wps_ite (fun h => absurd (of_decide_eq_true h) hcond) (fun _ => ?_)
      refine wps_ld hd.1 (by rfl) ?_
      refine wps_st (by simp) (wps_pure ?_)
      refine ent_prr (by rw [range_add1 hj (by omega)]; omega) (ent_ex (j + 1) (ent_ex hd.1 ?_))
      repeat first | (with_reducible refine ent_pick ?_) | (refine ent_pickC (by rfl) ?_) | (refine ent_prq ?_)
      all_goals first | exact ⟨range_add1 hj (by omega), by omega, hR2⟩ | trivial
  · intro D
    refine wps_exP fun s => ?_
    simp only [← star_assoc]
    refine wps_prP fun hR => ?_
    rw [allS_end, whL] at hR
    rw [hR]
    refine wps_ld s (by rfl) ?_
    refine wps_st (by simp) ?_
    refine wps_st (by simp) ?_
    refine wps_st (by simp) ?_
    refine wps_take ?_
    refine wps_ld s (by rfl) ?_
    refine wps_ld true (by rfl) ?_
    refine wps_ld 0 (by rfl) (wps_pure ?_)
    repeat first | (with_reducible refine ent_pick ?_) | (refine ent_prq ?_)
    all_goals first | rfl | trivial
  · intro D
    simp only [← star_assoc]
    refine wps_prP fun hR => ?_
    rw [hR]
    refine wps_take ?_
    refine wps_ld 0 (by rfl) ?_
    refine wps_ld false (by rfl) ?_
    refine wps_ld 0 (by rfl) (wps_pure ?_)
    repeat first | (with_reducible refine ent_pick ?_) | (refine ent_prq ?_)
    all_goals first | rfl | trivial
  · intro D id
    exact wps_false (fun o ho => by
      have := ent_right _ _ o (ent_left _ _ o ho)
      exact ent_right _ _ o this)
end Go.Proofs.Ytldmeimebebllaa
