/-
  a part of the proof: what functions of the program do, in a separation logic.
-/
import Derived.Test.YtldmeimebebllaaBnk2
import Derived.Test.YtldmeimebebllaaMoSL8
import Derived.Test.YtldmeimebebllaaMoSort
namespace Go.Proofs.Ytldmeimebebllaa
open Go.Mo
set_option linter.unusedVariables false
variable {g : Fr} {cv : CV}
theorem filter_lt {α : Type} {p q : α → Bool} (hpq : ∀ x, q x = true → p x = true) {a : α} (hpa : p a = true) (hqa : q a = false) : ∀ {l : List α}, a ∈ l → (l.filter q).length < (l.filter p).length
  | [], h => by simp at h
  | x :: l, h => by
    have hle : (l.filter q).length ≤ (l.filter p).length := by
      rw [← List.countP_eq_length_filter, ← List.countP_eq_length_filter]
      exact List.countP_mono_left fun x _ h => hpq x h
    rcases List.mem_cons.1 h with rfl | h
    · rw [List.filter_cons, List.filter_cons, if_pos hpa, if_neg (by simp [hqa])]
      simp only [List.length_cons]; omega
    · have ih := filter_lt hpq hpa hqa h
      rw [List.filter_cons, List.filter_cons]
      cases hq : q x with
      | true => rw [if_pos rfl, if_pos (hpq x hq)]; simp only [List.length_cons]; omega
      | false =>
        rw [if_neg (by simp)]
        split
        · simp only [List.length_cons]; omega
        · exact ih
def KeysOk (cv : CV) : Prop := ∀ (a : Addr) (yv : Value) (Q : Value → World → Prop) (w : World), maps_Keys_m_c1 cv yv a (fun _ w' => Q (.tuple #[]) w') w → cv.enter (.func (.func fid_maps_Keys_m_c1) #[] #[.pointer (some a)]) #[yv] Q w
def keyNx (f : Int → Option Value) (s : List Int) (x : Int) (s' : List Int) : Prop := s' = s ++ [x] ∧ s'.Nodup ∧ ∀ y ∈ s', (f y).isSome = true
def keyFin (f : Int → Option Value) (s : List Int) : Prop := s.Nodup ∧ ∀ y, y ∈ s ↔ (f y).isSome = true
abbrev keysV (c : Nat) : Value := .func (.func fid_maps_Keys_m_c1) #[] #[.pointer (some ⟨c, 0, none⟩)]
def keyOf (e : MapEntry) : Int := match e.key with | .int _ n => n | _ => 0
theorem keys_iter (hcv : KeysOk cv) {c mb clock : Nat} {es : Array MapEntry} {f : Int → Option Value} (hm : MapOk es.toList clock f) (hv : ∀ j v, f j = some v → ∃ s : Slc, v = vS s) :
    IterG cv (keysV c) (fun x : Int => #[.int .i64 x]) [] (keyNx f) (keyFin f) (pc c [.map (some mb)] * po mb (.map es clock)) := by
  intro yv I E hstep g
  refine wps_enter (m := maps_Keys_m_c1 cv yv ⟨c, 0, none⟩) (fun Q w h => hcv _ _ _ _ h) ?_
  unfold maps_Keys_m_c1
  repeat (first
    | (with_reducible refine wps_bindpure ?_)
    | (with_reducible refine wps_assoc ?_)
    | (with_reducible refine wps_nil ?_)
    | (with_reducible refine wps_stepAlloc fun _ => ?_)
    | (with_reducible refine wps_alloc fun _ => ?_)
    | (with_reducible refine wps_newO fun _ => ?_)
    | (refine wps_ld _ (by rfl) ?_)
    | (refine wps_ldG _ _ _ (by rfl) ?_)
    | (refine wps_ldA _ (by rfl) ?_)
    | (refine wps_ldI _ (by rfl) ?_)
    | (refine wps_ldGI _ _ _ (by rfl) ?_)
    | (refine wps_ldAI _ (by rfl) ?_)
    | (refine wps_st (by simp) ?_)
    | (refine wps_stA (by simp) (by simp [Value.oneCell']) ?_)
    | ((with_reducible apply wps_val); apply val_ite; rotate_left; refine fun (_ : ¬ _) => ?_; rotate_right; refine fun (_ : _ = true) => ?_)
    | ((with_reducible apply val_ite); rotate_left; refine fun (_ : ¬ _) => ?_; rotate_right; refine fun (_ : _ = true) => ?_)
    | (with_reducible refine wps_regionH ?_)
    | ((with_reducible apply wps_bindV); apply val_iteL; rotate_left; refine fun (_ : ¬ _) => ?_; rotate_right; refine fun (_ : _ = true) => ?_)
    | ((with_reducible apply val_iteL); rotate_left; refine fun (_ : ¬ _) => ?_; rotate_right; refine fun (_ : _ = true) => ?_)
    | (with_reducible exact wps_pure (ent_val rfl)))
  refine wps_rangeMapF hm fun it => ?_
  refine wps_loopg (γ := List Int) (fun s _ => pr (s.Nodup ∧ ∀ y ∈ s, (f y).isSome = true) * (pc c [.map (some mb)] * I s * itrF it mb es clock f (fun i => s.contains i)))
    (fun s _ => (es.toList.filter fun e => !s.contains (keyOf e)).length) [] ?_ fun s _ => ?_
  · refine ent_prr ⟨by simp, by simp⟩ ?_
    have : (fun i : Int => ([] : List Int).contains i) = fun _ => false := by funext i; simp
    rw [this]
    refine Ent.of_eq ?_
    ac_rfl
  · refine wps_pr fun ⟨hnd, hall⟩ => ?_
    refine wps_nextF rfl (fun hend => ?_) (fun j v hj hV => ?_)
    · refine wps_mapR (wps_pure ?_)
      have : pc c [.map (some mb)] * I s * itrF it mb es clock f (fun i => s.contains i) = (pc c [.map (some mb)] * itrF it mb es clock f (fun i => s.contains i)) * I s := by ac_rfl
      rw [this]
      refine Ent.star (Ent.starr (ex_ent fun seen => pr_ent fun _ => ent_right _ _)) (ent_orl (ent_ex s (ent_prr ⟨hnd, fun y => ⟨hall y, fun hy => ?_⟩⟩ (Ent.refl _))))
      obtain ⟨v, hv⟩ := Option.isSome_iff_exists.1 hy
      simpa using hend y v hv
    · obtain ⟨sv, rfl⟩ := hv j v hj
      have hjs : j ∉ s := by simpa using hV
      have hnx : keyNx f s j (s ++ [j]) := by
        refine ⟨rfl, ?_, ?_⟩
        · rw [List.nodup_append]
          refine ⟨hnd, by simp, fun a ha b hb => ?_⟩
          simp only [List.mem_singleton] at hb
          subst hb
          exact fun e => hjs (e ▸ ha)
        · intro y hy
          rcases List.mem_append.1 hy with hy | hy
          · exact hall y hy
          · simp only [List.mem_singleton] at hy
            subst hy; rw [hj]; rfl
      obtain ⟨e, he, hk, _⟩ := (hm.find j (vS sv)).1 hj
      have hke : keyOf e = j := by
        obtain ⟨n, hn⟩ := hm.keys e he
        rw [keyIs_int hn] at hk
        simp only [keyOf, hn]
        have : j = n := by simpa using hk
        exact this.symm
      have hV' : (fun i => s.contains i || i == j) = fun i => (s ++ [j]).contains i := by
        funext i
        rw [Bool.eq_iff_iff, List.contains_append]; simp
      refine wps_entryF (ev := vS) sv rfl rfl ?_
      rw [hV']
      unfold itrF itrC
      refine wps_exP fun seen => ?_
      simp only [← star_assoc]
      refine wps_prP fun hok => ?_
      refine wps_call (F := po it (.mapIter (some mb) clock seen clock)) (A := pc c [.map (some mb)] * po mb (.map es clock) * I s) (fun g' => wps_yield (hstep s j (s ++ [j]) hnx g')) ?_ fun y => ?_
      · exact Ent.of_eq (by ac_rfl)
      cases y with
      | true =>
        refine wps_ite (fun h => absurd h (by simp)) (fun _ => wps_pure ?_)
        have hlt : (es.toList.filter fun e => !(s ++ [j]).contains (keyOf e)).length < (es.toList.filter fun e => !s.contains (keyOf e)).length := by
          refine filter_lt (a := e) (fun x hx => ?_) ?_ ?_ he
          · simp only [List.contains_append, Bool.not_or, Bool.and_eq_true] at hx
            exact hx.1
          · rw [hke, hV]; rfl
          · rw [hke]; simp
        refine Ent.trans ?_ (ent_ex (s ++ [j]) (Ent.refl _))
        rw [if_pos rfl]
        refine ent_exr seen ?_
        simp only [← star_assoc]
        exact ent_pick (ent_pick (ent_prx hok (ent_pick (ent_pick (ent_prx ⟨hnx.2.1, hnx.2.2⟩ (ent_prq hlt))))))
      | false =>
        refine wps_ite (fun _ => wps_mapR (wps_pure ?_)) (fun h => absurd rfl h)
        rw [if_neg (by simp)]
        exact Ent.trans (ent_right _ _) (Ent.starr (ent_orr (Ent.refl _)))
theorem slices_AppendSeq_spec (hcv : KeysOk cv) {c mb clock N : Nat} {es : Array MapEntry} {f : Int → Option Value} (hm : MapOk es.toList clock f) (hv : ∀ j v, f j = some v → ∃ s : Slc, v = vS s)
    (hN : ∀ s : List Int, s.Nodup → (∀ y ∈ s, (f y).isSome = true) → s.length ≤ N) (hN2 : N ≤ 1073741824) :
    wps g (pc c [.map (some mb)] * po mb (.map es clock)) (slices_AppendSeq_i cv ⟨none, 0, 0⟩ (keysV c)) fun t => po mb (.map es clock) * ex fun zs : List Int => pr (keyFin f zs) * own 1 t (zs.map (Value.int .i64)) := by
  unfold slices_AppendSeq_i
  repeat (first
    | (with_reducible refine wps_bindpure ?_)
    | (with_reducible refine wps_assoc ?_)
    | (with_reducible refine wps_nil ?_)
    | (with_reducible refine wps_stepAlloc fun _ => ?_)
    | (with_reducible refine wps_alloc fun _ => ?_)
    | (with_reducible refine wps_newO fun _ => ?_)
    | (refine wps_ld _ (by rfl) ?_)
    | (refine wps_ldG _ _ _ (by rfl) ?_)
    | (refine wps_ldA _ (by rfl) ?_)
    | (refine wps_ldI _ (by rfl) ?_)
    | (refine wps_ldGI _ _ _ (by rfl) ?_)
    | (refine wps_ldAI _ (by rfl) ?_)
    | (refine wps_st (by simp) ?_)
    | (refine wps_stA (by simp) (by simp [Value.oneCell']) ?_)
    | ((with_reducible apply wps_val); apply val_ite; rotate_left; refine fun (_ : ¬ _) => ?_; rotate_right; refine fun (_ : _ = true) => ?_)
    | ((with_reducible apply val_ite); rotate_left; refine fun (_ : ¬ _) => ?_; rotate_right; refine fun (_ : _ = true) => ?_)
    | (with_reducible refine wps_regionH ?_)
    | ((with_reducible apply wps_bindV); apply val_iteL; rotate_left; refine fun (_ : ¬ _) => ?_; rotate_right; refine fun (_ : _ = true) => ?_)
    | ((with_reducible apply val_iteL); rotate_left; refine fun (_ : ¬ _) => ?_; rotate_right; refine fun (_ : _ = true) => ?_)
    | (with_reducible exact wps_pure (ent_val rfl)))
  rename_i x2
  refine wps_rangeG (F := emp) (fun s : List Int => ex fun t : Slc => pr (t.len = s.length ∧ s.length ≤ N) * own 1 t (s.map (Value.int .i64)) * pc x2 [vS t]) (fun _ => pr False)
    (fun s x s' t => pr (t = x) * (pc c [.map (some mb)] * po mb (.map es clock) * ex fun t : Slc => pr (t.len = s.length ∧ s.length ≤ N) * own 1 t (s.map (Value.int .i64)) * pc x2 [vS t]))
    (keys_iter (mb := mb) hcv hm hv) ?_ ?_ ?_ ?_ ?_ ?_
  · rw [emp_star]
    refine Ent.starr ?_
    refine ent_ex nilS ?_
    have : pc x2 [Value.slice none 0 0] = emp * emp * pc x2 [vS nilS] := by rw [star_emp, emp_star]; rfl
    rw [this]
    exact Ent.starl (Ent.star (fun _ _ => ⟨rfl, Nat.zero_le _⟩) (own_nil 1))
  · intro s x s' _ g
    exact wps_pure (ent_prr rfl (Ent.refl _))
  · intro s x s' hnx t g
    refine wps_pr fun ht => ?_
    subst ht
    obtain ⟨rfl, hnd, hall⟩ := hnx
    refine wps_exP fun u => ?_
    simp only [← star_assoc]
    refine wps_prP fun ⟨hul, hsl⟩ => ?_
    have hN' := hN _ hnd hall
    repeat (first
      | (with_reducible refine wps_bindpure ?_)
      | (with_reducible refine wps_assoc ?_)
      | (with_reducible refine wps_nil ?_)
      | (with_reducible refine wps_stepAlloc fun _ => ?_)
      | (with_reducible refine wps_alloc fun _ => ?_)
      | (with_reducible refine wps_newO fun _ => ?_)
      | (refine wps_ld _ (by rfl) ?_)
      | (refine wps_ldG _ _ _ (by rfl) ?_)
      | (refine wps_ldA _ (by rfl) ?_)
      | (refine wps_ldI _ (by rfl) ?_)
      | (refine wps_ldGI _ _ _ (by rfl) ?_)
      | (refine wps_ldAI _ (by rfl) ?_)
      | (refine wps_st (by simp) ?_)
      | (refine wps_stA (by simp) (by simp [Value.oneCell']) ?_)
      | ((with_reducible apply wps_val); apply val_ite; rotate_left; refine fun (_ : ¬ _) => ?_; rotate_right; refine fun (_ : _ = true) => ?_)
      | ((with_reducible apply val_ite); rotate_left; refine fun (_ : ¬ _) => ?_; rotate_right; refine fun (_ : _ = true) => ?_)
      | (with_reducible refine wps_regionH ?_)
      | ((with_reducible apply wps_bindV); apply val_iteL; rotate_left; refine fun (_ : ¬ _) => ?_; rotate_right; refine fun (_ : _ = true) => ?_)
      | ((with_reducible apply val_iteL); rotate_left; refine fun (_ : ¬ _) => ?_; rotate_right; refine fun (_ : _ = true) => ?_)
      | (with_reducible exact wps_pure (ent_val rfl)))
    refine wps_app 1 [Value.int .i64 t] rfl (by decide) (rsl_pc rfl) (by simp [Value.oneCell']) (by (try dsimp only); omega) fun u' hu' => ?_
    repeat (first
      | (with_reducible refine wps_bindpure ?_)
      | (with_reducible refine wps_assoc ?_)
      | (with_reducible refine wps_nil ?_)
      | (with_reducible refine wps_stepAlloc fun _ => ?_)
      | (with_reducible refine wps_alloc fun _ => ?_)
      | (with_reducible refine wps_newO fun _ => ?_)
      | (refine wps_ld _ (by rfl) ?_)
      | (refine wps_ldG _ _ _ (by rfl) ?_)
      | (refine wps_ldA _ (by rfl) ?_)
      | (refine wps_ldI _ (by rfl) ?_)
      | (refine wps_ldGI _ _ _ (by rfl) ?_)
      | (refine wps_ldAI _ (by rfl) ?_)
      | (refine wps_st (by simp) ?_)
      | (refine wps_stA (by simp) (by simp [Value.oneCell']) ?_)
      | ((with_reducible apply wps_val); apply val_ite; rotate_left; refine fun (_ : ¬ _) => ?_; rotate_right; refine fun (_ : _ = true) => ?_)
      | ((with_reducible apply val_ite); rotate_left; refine fun (_ : ¬ _) => ?_; rotate_right; refine fun (_ : _ = true) => ?_)
      | (with_reducible refine wps_regionH ?_)
      | ((with_reducible apply wps_bindV); apply val_iteL; rotate_left; refine fun (_ : ¬ _) => ?_; rotate_right; refine fun (_ : _ = true) => ?_)
      | ((with_reducible apply val_iteL); rotate_left; refine fun (_ : ¬ _) => ?_; rotate_right; refine fun (_ : _ = true) => ?_)
      | (with_reducible exact wps_pure (ent_val rfl)))
    refine wps_pure ?_
    refine Ent.trans ?_ (Ent.starr (ent_ex u' (Ent.refl _)))
    simp only [← star_assoc]
    refine ent_pickC (by rfl) (ent_pickS (by simp) (ent_prx ⟨by simp [hu', hul], hN'⟩ ?_))
    exact ent_pick ent_drop
  · intro D
    refine wps_exP fun s => ?_
    simp only [← star_assoc]
    refine wps_prP fun hf => ?_
    refine wps_exP fun u => ?_
    simp only [← star_assoc]
    refine wps_prP fun hu => ?_
    repeat (first
      | (with_reducible refine wps_bindpure ?_)
      | (with_reducible refine wps_assoc ?_)
      | (with_reducible refine wps_nil ?_)
      | (with_reducible refine wps_stepAlloc fun _ => ?_)
      | (with_reducible refine wps_alloc fun _ => ?_)
      | (with_reducible refine wps_newO fun _ => ?_)
      | (refine wps_ld _ (by rfl) ?_)
      | (refine wps_ldG _ _ _ (by rfl) ?_)
      | (refine wps_ldA _ (by rfl) ?_)
      | (refine wps_ldI _ (by rfl) ?_)
      | (refine wps_ldGI _ _ _ (by rfl) ?_)
      | (refine wps_ldAI _ (by rfl) ?_)
      | (refine wps_st (by simp) ?_)
      | (refine wps_stA (by simp) (by simp [Value.oneCell']) ?_)
      | ((with_reducible apply wps_val); apply val_ite; rotate_left; refine fun (_ : ¬ _) => ?_; rotate_right; refine fun (_ : _ = true) => ?_)
      | ((with_reducible apply val_ite); rotate_left; refine fun (_ : ¬ _) => ?_; rotate_right; refine fun (_ : _ = true) => ?_)
      | (with_reducible refine wps_regionH ?_)
      | ((with_reducible apply wps_bindV); apply val_iteL; rotate_left; refine fun (_ : ¬ _) => ?_; rotate_right; refine fun (_ : _ = true) => ?_)
      | ((with_reducible apply val_iteL); rotate_left; refine fun (_ : ¬ _) => ?_; rotate_right; refine fun (_ : _ = true) => ?_)
      | (with_reducible exact wps_pure (ent_val rfl)))
    refine wps_take (wps_pure ?_)
    refine ent_exr s ?_
    simp only [← star_assoc]
    exact ent_pick (ent_prx hf ent_drop)
  · intro D
    exact wps_false (fun o ho => by
      have := ent_right _ _ o (ent_left _ _ o ho)
      exact ent_right _ _ o this)
  · intro D id
    exact wps_false (fun o ho => by
      have := ent_right _ _ o (ent_left _ _ o ho)
      exact ent_right _ _ o this)
theorem sorted_fin {f : Int → Option Value} {zs l : List Int} (h : keyFin f zs) (hl : l.Pairwise (· < ·)) (hm : ∀ y, y ∈ l ↔ (f y).isSome = true) : sorted zs = l := by
  have hnd : l.Nodup := hl.imp fun h e => by omega
  have hp : zs.Perm l := (List.perm_ext_iff_of_nodup h.1 hnd).2 fun a => (h.2 a).trans (hm a).symm
  refine List.Perm.eq_of_pairwise (le := fun a b : Int => a ≤ b) (fun a b _ _ h1 h2 => by omega) ?_ (hl.imp fun h => by omega) ((List.mergeSort_perm zs _).trans hp)
  have := List.pairwise_mergeSort (le := fun x y : Int => decide (x ≤ y)) (fun a b c h1 h2 => by simp at *; omega) (fun a b => by simp; omega) zs
  exact this.imp fun h => by simpa using h
/-- slices.Sorted(maps.Keys(m)) -/
theorem slices_Sorted_spec (hcv : KeysOk cv) {c mb clock N : Nat} {es : Array MapEntry} {f : Int → Option Value} (hm : MapOk es.toList clock f) (hv : ∀ j v, f j = some v → ∃ s : Slc, v = vS s)
    (hN : ∀ s : List Int, s.Nodup → (∀ y ∈ s, (f y).isSome = true) → s.length ≤ N) (hN2 : N ≤ 1073741824) {l : List Int} (hl : l.Pairwise (· < ·)) (hml : ∀ y, y ∈ l ↔ (f y).isSome = true) :
    wps g (pc c [.map (some mb)] * po mb (.map es clock)) (slices_Sorted_i cv (keysV c)) fun t => po mb (.map es clock) * own 1 t (l.map (Value.int .i64)) := by
  unfold slices_Sorted_i slices_Collect_i
  refine wps_assoc (wps_bind (slices_AppendSeq_spec hcv hm hv hN hN2) fun t => ?_)
  refine wps_bindpure ?_
  refine wps_exP fun zs => ?_
  simp only [← star_assoc]
  refine wps_prP fun hf => ?_
  have hz : zs.length ≤ N := hN zs hf.1 fun y hy => (hf.2 y).1 hy
  refine wps_sort rfl (by omega) (wps_pure ?_)
  rw [sorted_fin hf hl hml]
  exact Ent.refl _
end Go.Proofs.Ytldmeimebebllaa
