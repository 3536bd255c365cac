/-
  A part of the proof: what functions of the program do, a symbolic executor of the code with its proof, and closed runs.
-/
import Derived.Test.YtnmkienagpgnmaaGreatDoorPart0
import Derived.Test.YtnmkienagpgnmaaGreatDoorPart2
import Derived.Test.YtnmkienagpgnmaaGreatDoorProg
import Derived.ChangeReads
import Derived.ReadAgain
import Derived.Deep.Frames
import Derived.RowKit3
import Derived.ChangeSame
namespace Go.Proofs.Ytldmeimebebllaa
open Go.Mo
set_option linter.unusedVariables false
abbrev fid_maps_Keys_m_c1 : Nat := 162
abbrev fid_maps_Keys_g_c1 : Nat := 257
abbrev fid_maps_Keys_gbyte__int__gbyte__c1 : Nat := 258
variable {g : Fr} {cv : CV}
theorem wps_enter {H : HP} {m : M Unit} {fv yv : Value} {Q : Value → HP} (hcv : ∀ (Q : Value → World → Prop) (w : World), m (fun _ w' => Q (.tuple #[]) w') w → cv.enter fv #[yv] Q w) (h : wps g H m fun _ => Q (.tuple #[])) : wps g H (cv.enter fv #[yv]) Q :=
  fun w a Qf ho ha hq => hcv Qf w (h w a (fun _ w' => Qf (.tuple #[]) w') ho ha fun x w' a' ho' hb => hq _ w' a' ho' hb)
theorem filter_lt {α : Type} {p q : α → Bool} (hpq : ∀ x, q x = true → p x = true) {a : α} (hpa : p a = true) (hqa : q a = false) : ∀ {l : List α}, a ∈ l → (l.filter q).length < (l.filter p).length
  | [], h => by simp at h
  | x :: l, h => by
    have hle : (l.filter q).length ≤ (l.filter p).length := by
      rw [← List.countP_eq_length_filter, ← List.countP_eq_length_filter]
      exact List.countP_mono_left fun x _ h => hpq x h
    rcases List.mem_cons.1 h with rfl | h
    · rw [List.filter_cons, List.filter_cons, if_pos hpa, if_neg (by simp [hqa])]
      simp only [List.length_cons]; omega
    · have ih := filter_lt hpq hpa hqa h
      rw [List.filter_cons, List.filter_cons]
      cases hq : q x with
      | true => rw [if_pos rfl, if_pos (hpq x hq)]; simp only [List.length_cons]; omega
      | false =>
        rw [if_neg (by simp)]
        split
        · simp only [List.length_cons]; omega
        · exact ih
def KeysOk (cv : CV) : Prop := ∀ (a : Addr) (yv : Value) (Q : Value → World → Prop) (w : World), maps_Keys_m_c1 cv yv a (fun _ w' => Q (.tuple #[]) w') w → cv.enter (.func (.func fid_maps_Keys_m_c1) #[] #[.pointer (some a)]) #[yv] Q w
def keyNx (f : Int → Option Value) (s : List Int) (x : Int) (s' : List Int) : Prop := s' = s ++ [x] ∧ s'.Nodup ∧ ∀ y ∈ s', (f y).isSome = true
def keyFin (f : Int → Option Value) (s : List Int) : Prop := s.Nodup ∧ ∀ y, y ∈ s ↔ (f y).isSome = true
abbrev keysV (c : Nat) : Value := .func (.func fid_maps_Keys_m_c1) #[] #[.pointer (some ⟨c, 0, none⟩)]
def keyOf (e : MapEntry) : Int := match e.key with | .int _ n => n | _ => 0
theorem keys_iter (hcv : KeysOk cv) {c mb clock : Nat} {es : Array MapEntry} {f : Int → Option Value} (hm : MapOk es.toList clock f) (hv : ∀ j v, f j = some v → ∃ s : Slc, v = vS s) :
    IterG cv (keysV c) (fun x : Int => #[.int .i64 x]) [] (keyNx f) (keyFin f) (pc c [.map (some mb)] * po mb (.map es clock)) := by
  intro yv I E hstep g
  refine wps_enter (m := maps_Keys_m_c1 cv yv ⟨c, 0, none⟩) (fun Q w h => hcv _ _ _ _ h) ?_
  unfold maps_Keys_m_c1
  repeat (first
    | (with_reducible refine wps_bindpure ?_)
    | (with_reducible refine wps_assoc ?_)
    | (with_reducible refine wps_nil ?_)
    | (with_reducible refine wps_stepAlloc fun _ => ?_)
    | (with_reducible refine wps_alloc fun _ => ?_)
    | (with_reducible refine wps_newO fun _ => ?_)
    | (refine wps_ld _ (by rfl) ?_)
    | (refine wps_ldG _ _ _ (by rfl) ?_)
    | (refine wps_ldA _ (by rfl) ?_)
    | (refine wps_ldI _ (by rfl) ?_)
    | (refine wps_ldGI _ _ _ (by rfl) ?_)
    | (refine wps_ldAI _ (by rfl) ?_)
    | (refine wps_st (by simp) ?_)
    | (refine wps_stA (by simp) (by simp [Value.oneCell']) ?_)
    | ((with_reducible apply wps_val); apply val_ite; rotate_left; refine fun (_ : ¬ _) => ?_; rotate_right; refine fun (_ : _ = true) => ?_)
    | ((with_reducible apply val_ite); rotate_left; refine fun (_ : ¬ _) => ?_; rotate_right; refine fun (_ : _ = true) => ?_)
    | (with_reducible refine wps_regionH ?_)
    | ((with_reducible apply wps_bindV); apply val_iteL; rotate_left; refine fun (_ : ¬ _) => ?_; rotate_right; refine fun (_ : _ = true) => ?_)
    | ((with_reducible apply val_iteL); rotate_left; refine fun (_ : ¬ _) => ?_; rotate_right; refine fun (_ : _ = true) => ?_)
    | (with_reducible exact wps_pure (ent_val rfl)))
  refine wps_rangeMapF hm fun it => ?_
  refine wps_loopg (γ := List Int) (fun s _ => pr (s.Nodup ∧ ∀ y ∈ s, (f y).isSome = true) * (pc c [.map (some mb)] * I s * itrF it mb es clock f (fun i => s.contains i)))
    (fun s _ => (es.toList.filter fun e => !s.contains (keyOf e)).length) [] ?_ fun s _ => ?_
  · refine ent_prr ⟨by simp, by simp⟩ ?_
    have : (fun i : Int => ([] : List Int).contains i) = fun _ => false := by funext i; simp
    rw [this]
    refine Ent.of_eq ?_
    ac_rfl
  · refine wps_pr fun ⟨hnd, hall⟩ => ?_
    refine wps_nextF rfl (fun hend => ?_) (fun j v hj hV => ?_)
    · refine wps_mapR (wps_pure ?_)
      have : pc c [.map (some mb)] * I s * itrF it mb es clock f (fun i => s.contains i) = (pc c [.map (some mb)] * itrF it mb es clock f (fun i => s.contains i)) * I s := by ac_rfl
      rw [this]
      refine Ent.star (Ent.starr (ex_ent fun seen => pr_ent fun _ => ent_right _ _)) (ent_orl (ent_ex s (ent_prr ⟨hnd, fun y => ⟨hall y, fun hy => ?_⟩⟩ (Ent.refl _))))
      obtain ⟨v, hv⟩ := Option.isSome_iff_exists.1 hy
      simpa using hend y v hv
    · obtain ⟨sv, rfl⟩ := hv j v hj
      have hjs : j ∉ s := by simpa using hV
      have hnx : keyNx f s j (s ++ [j]) := by
        refine ⟨rfl, ?_, ?_⟩
        · rw [List.nodup_append]
          refine ⟨hnd, by simp, fun a ha b hb => ?_⟩
          simp only [List.mem_singleton] at hb
          subst hb
          exact fun e => hjs (e ▸ ha)
        · intro y hy
          rcases List.mem_append.1 hy with hy | hy
          · exact hall y hy
          · simp only [List.mem_singleton] at hy
            subst hy; rw [hj]; rfl
      obtain ⟨e, he, hk, _⟩ := (hm.find j (vS sv)).1 hj
      have hke : keyOf e = j := by
        obtain ⟨n, hn⟩ := hm.keys e he
        rw [keyIs_int hn] at hk
        simp only [keyOf, hn]
        have : j = n := by simpa using hk
        exact this.symm
      have hV' : (fun i => s.contains i || i == j) = fun i => (s ++ [j]).contains i := by
        funext i
        rw [Bool.eq_iff_iff, List.contains_append]; simp
      refine wps_entryF (ev := vS) sv rfl rfl ?_
      rw [hV']
      unfold itrF itrC
      refine wps_exP fun seen => ?_
      simp only [← star_assoc]
      refine wps_prP fun hok => ?_
      refine wps_call (F := po it (.mapIter (some mb) clock seen clock)) (A := pc c [.map (some mb)] * po mb (.map es clock) * I s) (fun g' => wps_yield (hstep s j (s ++ [j]) hnx g')) ?_ fun y => ?_
      · exact Ent.of_eq (by ac_rfl)
      cases y with
      | true =>
        refine wps_ite (fun h => absurd h (by simp)) (fun _ => wps_pure ?_)
        have hlt : (es.toList.filter fun e => !(s ++ [j]).contains (keyOf e)).length < (es.toList.filter fun e => !s.contains (keyOf e)).length := by
          refine filter_lt (a := e) (fun x hx => ?_) ?_ ?_ he
          · simp only [List.contains_append, Bool.not_or, Bool.and_eq_true] at hx
            exact hx.1
          · rw [hke, hV]; rfl
          · rw [hke]; simp
        refine Ent.trans ?_ (ent_ex (s ++ [j]) (Ent.refl _))
        rw [if_pos rfl]
        refine ent_exr seen ?_
        simp only [← star_assoc]
        exact ent_pick (ent_pick (ent_prx hok (ent_pick (ent_pick (ent_prx ⟨hnx.2.1, hnx.2.2⟩ (ent_prq hlt))))))
      | false =>
        refine wps_ite (fun _ => wps_mapR (wps_pure ?_)) (fun h => absurd rfl h)
        rw [if_neg (by simp)]
        exact Ent.trans (ent_right _ _) (Ent.starr (ent_orr (Ent.refl _)))
theorem slices_AppendSeq_spec (hcv : KeysOk cv) {c mb clock N : Nat} {es : Array MapEntry} {f : Int → Option Value} (hm : MapOk es.toList clock f) (hv : ∀ j v, f j = some v → ∃ s : Slc, v = vS s)
    (hN : ∀ s : List Int, s.Nodup → (∀ y ∈ s, (f y).isSome = true) → s.length ≤ N) (hN2 : N ≤ 1073741824) :
    wps g (pc c [.map (some mb)] * po mb (.map es clock)) (slices_AppendSeq_i cv ⟨none, 0, 0⟩ (keysV c)) fun t => pc c [.map (some mb)] * po mb (.map es clock) * ex fun zs : List Int => pr (keyFin f zs) * own 1 t (zs.map (Value.int .i64)) := by
  unfold slices_AppendSeq_i
  repeat (first
    | (with_reducible refine wps_bindpure ?_)
    | (with_reducible refine wps_assoc ?_)
    | (with_reducible refine wps_nil ?_)
    | (with_reducible refine wps_stepAlloc fun _ => ?_)
    | (with_reducible refine wps_alloc fun _ => ?_)
    | (with_reducible refine wps_newO fun _ => ?_)
    | (refine wps_ld _ (by rfl) ?_)
    | (refine wps_ldG _ _ _ (by rfl) ?_)
    | (refine wps_ldA _ (by rfl) ?_)
    | (refine wps_ldI _ (by rfl) ?_)
    | (refine wps_ldGI _ _ _ (by rfl) ?_)
    | (refine wps_ldAI _ (by rfl) ?_)
    | (refine wps_st (by simp) ?_)
    | (refine wps_stA (by simp) (by simp [Value.oneCell']) ?_)
    | ((with_reducible apply wps_val); apply val_ite; rotate_left; refine fun (_ : ¬ _) => ?_; rotate_right; refine fun (_ : _ = true) => ?_)
    | ((with_reducible apply val_ite); rotate_left; refine fun (_ : ¬ _) => ?_; rotate_right; refine fun (_ : _ = true) => ?_)
    | (with_reducible refine wps_regionH ?_)
    | ((with_reducible apply wps_bindV); apply val_iteL; rotate_left; refine fun (_ : ¬ _) => ?_; rotate_right; refine fun (_ : _ = true) => ?_)
    | ((with_reducible apply val_iteL); rotate_left; refine fun (_ : ¬ _) => ?_; rotate_right; refine fun (_ : _ = true) => ?_)
    | (with_reducible exact wps_pure (ent_val rfl)))
  rename_i x2
  refine wps_rangeG (F := emp) (fun s : List Int => ex fun t : Slc => pr (t.len = s.length ∧ s.length ≤ N) * own 1 t (s.map (Value.int .i64)) * pc x2 [vS t]) (fun _ => pr False)
    (fun s x s' t => pr (t = x) * (pc c [.map (some mb)] * po mb (.map es clock) * ex fun t : Slc => pr (t.len = s.length ∧ s.length ≤ N) * own 1 t (s.map (Value.int .i64)) * pc x2 [vS t]))
    (keys_iter (mb := mb) hcv hm hv) ?_ ?_ ?_ ?_ ?_ ?_
  · rw [emp_star]
    refine Ent.starr ?_
    refine ent_ex nilS ?_
    have : pc x2 [Value.slice none 0 0] = emp * emp * pc x2 [vS nilS] := by rw [star_emp, emp_star]; rfl
    rw [this]
    exact Ent.starl (Ent.star (fun _ _ => ⟨rfl, Nat.zero_le _⟩) (own_nil 1))
  · intro s x s' _ g
    exact wps_pure (ent_prr rfl (Ent.refl _))
  · intro s x s' hnx t g
    refine wps_pr fun ht => ?_
    subst ht
    obtain ⟨rfl, hnd, hall⟩ := hnx
    refine wps_exP fun u => ?_
    simp only [← star_assoc]
    refine wps_prP fun ⟨hul, hsl⟩ => ?_
    have hN' := hN _ hnd hall
    repeat (first
      | (with_reducible refine wps_bindpure ?_)
      | (with_reducible refine wps_assoc ?_)
      | (with_reducible refine wps_nil ?_)
      | (with_reducible refine wps_stepAlloc fun _ => ?_)
      | (with_reducible refine wps_alloc fun _ => ?_)
      | (with_reducible refine wps_newO fun _ => ?_)
      | (refine wps_ld _ (by rfl) ?_)
      | (refine wps_ldG _ _ _ (by rfl) ?_)
      | (refine wps_ldA _ (by rfl) ?_)
      | (refine wps_ldI _ (by rfl) ?_)
      | (refine wps_ldGI _ _ _ (by rfl) ?_)
      | (refine wps_ldAI _ (by rfl) ?_)
      | (refine wps_st (by simp) ?_)
      | (refine wps_stA (by simp) (by simp [Value.oneCell']) ?_)
      | ((with_reducible apply wps_val); apply val_ite; rotate_left; refine fun (_ : ¬ _) => ?_; rotate_right; refine fun (_ : _ = true) => ?_)
      | ((with_reducible apply val_ite); rotate_left; refine fun (_ : ¬ _) => ?_; rotate_right; refine fun (_ : _ = true) => ?_)
      | (with_reducible refine wps_regionH ?_)
      | ((with_reducible apply wps_bindV); apply val_iteL; rotate_left; refine fun (_ : ¬ _) => ?_; rotate_right; refine fun (_ : _ = true) => ?_)
      | ((with_reducible apply val_iteL); rotate_left; refine fun (_ : ¬ _) => ?_; rotate_right; refine fun (_ : _ = true) => ?_)
      | (with_reducible exact wps_pure (ent_val rfl)))
    refine wps_app 1 [Value.int .i64 t] rfl (by decide) (rsl_pc rfl) (by simp [Value.oneCell']) (by (try dsimp only); omega) fun u' hu' => ?_
    repeat (first
      | (with_reducible refine wps_bindpure ?_)
      | (with_reducible refine wps_assoc ?_)
      | (with_reducible refine wps_nil ?_)
      | (with_reducible refine wps_stepAlloc fun _ => ?_)
      | (with_reducible refine wps_alloc fun _ => ?_)
      | (with_reducible refine wps_newO fun _ => ?_)
      | (refine wps_ld _ (by rfl) ?_)
      | (refine wps_ldG _ _ _ (by rfl) ?_)
      | (refine wps_ldA _ (by rfl) ?_)
      | (refine wps_ldI _ (by rfl) ?_)
      | (refine wps_ldGI _ _ _ (by rfl) ?_)
      | (refine wps_ldAI _ (by rfl) ?_)
      | (refine wps_st (by simp) ?_)
      | (refine wps_stA (by simp) (by simp [Value.oneCell']) ?_)
      | ((with_reducible apply wps_val); apply val_ite; rotate_left; refine fun (_ : ¬ _) => ?_; rotate_right; refine fun (_ : _ = true) => ?_)
      | ((with_reducible apply val_ite); rotate_left; refine fun (_ : ¬ _) => ?_; rotate_right; refine fun (_ : _ = true) => ?_)
      | (with_reducible refine wps_regionH ?_)
      | ((with_reducible apply wps_bindV); apply val_iteL; rotate_left; refine fun (_ : ¬ _) => ?_; rotate_right; refine fun (_ : _ = true) => ?_)
      | ((with_reducible apply val_iteL); rotate_left; refine fun (_ : ¬ _) => ?_; rotate_right; refine fun (_ : _ = true) => ?_)
      | (with_reducible exact wps_pure (ent_val rfl)))
    refine wps_pure ?_
    refine Ent.trans ?_ (Ent.starr (ent_ex u' (Ent.refl _)))
    simp only [← star_assoc]
    refine ent_pickC (by rfl) (ent_pickS (by simp) (ent_prx ⟨by simp [hu', hul], hN'⟩ ?_))
    exact ent_pick ent_drop
  · intro D
    refine wps_exP fun s => ?_
    simp only [← star_assoc]
    refine wps_prP fun hf => ?_
    refine wps_exP fun u => ?_
    simp only [← star_assoc]
    refine wps_prP fun hu => ?_
    repeat (first
      | (with_reducible refine wps_bindpure ?_)
      | (with_reducible refine wps_assoc ?_)
      | (with_reducible refine wps_nil ?_)
      | (with_reducible refine wps_stepAlloc fun _ => ?_)
      | (with_reducible refine wps_alloc fun _ => ?_)
      | (with_reducible refine wps_newO fun _ => ?_)
      | (refine wps_ld _ (by rfl) ?_)
      | (refine wps_ldG _ _ _ (by rfl) ?_)
      | (refine wps_ldA _ (by rfl) ?_)
      | (refine wps_ldI _ (by rfl) ?_)
      | (refine wps_ldGI _ _ _ (by rfl) ?_)
      | (refine wps_ldAI _ (by rfl) ?_)
      | (refine wps_st (by simp) ?_)
      | (refine wps_stA (by simp) (by simp [Value.oneCell']) ?_)
      | ((with_reducible apply wps_val); apply val_ite; rotate_left; refine fun (_ : ¬ _) => ?_; rotate_right; refine fun (_ : _ = true) => ?_)
      | ((with_reducible apply val_ite); rotate_left; refine fun (_ : ¬ _) => ?_; rotate_right; refine fun (_ : _ = true) => ?_)
      | (with_reducible refine wps_regionH ?_)
      | ((with_reducible apply wps_bindV); apply val_iteL; rotate_left; refine fun (_ : ¬ _) => ?_; rotate_right; refine fun (_ : _ = true) => ?_)
      | ((with_reducible apply val_iteL); rotate_left; refine fun (_ : ¬ _) => ?_; rotate_right; refine fun (_ : _ = true) => ?_)
      | (with_reducible exact wps_pure (ent_val rfl)))
    refine wps_take (wps_pure ?_)
    refine ent_exr s ?_
    simp only [← star_assoc]
    exact ent_pick (ent_prx hf (ent_pick ent_drop))
  · intro D
    exact wps_false (fun o ho => by
      have := ent_right _ _ o (ent_left _ _ o ho)
      exact ent_right _ _ o this)
  · intro D id
    exact wps_false (fun o ho => by
      have := ent_right _ _ o (ent_left _ _ o ho)
      exact ent_right _ _ o this)
theorem sorted_fin {f : Int → Option Value} {zs l : List Int} (h : keyFin f zs) (hl : l.Pairwise (· < ·)) (hm : ∀ y, y ∈ l ↔ (f y).isSome = true) : sorted zs = l := by
  have hnd : l.Nodup := hl.imp fun h e => by omega
  have hp : zs.Perm l := (List.perm_ext_iff_of_nodup h.1 hnd).2 fun a => (h.2 a).trans (hm a).symm
  refine List.Perm.eq_of_pairwise (le := fun a b : Int => a ≤ b) (fun a b _ _ h1 h2 => by omega) ?_ (hl.imp fun h => by omega) ((List.mergeSort_perm zs _).trans hp)
  have := List.pairwise_mergeSort (le := fun x y : Int => decide (x ≤ y)) (fun a b c h1 h2 => by simp at *; omega) (fun a b => by simp; omega) zs
  exact this.imp fun h => by simpa using h
theorem slices_Sorted_spec (hcv : KeysOk cv) {c mb clock N : Nat} {es : Array MapEntry} {f : Int → Option Value} (hm : MapOk es.toList clock f) (hv : ∀ j v, f j = some v → ∃ s : Slc, v = vS s)
    (hN : ∀ s : List Int, s.Nodup → (∀ y ∈ s, (f y).isSome = true) → s.length ≤ N) (hN2 : N ≤ 1073741824) {l : List Int} (hl : l.Pairwise (· < ·)) (hml : ∀ y, y ∈ l ↔ (f y).isSome = true) :
    wps g (pc c [.map (some mb)] * po mb (.map es clock)) (slices_Sorted_i cv (keysV c)) fun t => pc c [.map (some mb)] * po mb (.map es clock) * own 1 t (l.map (Value.int .i64)) := by
  unfold slices_Sorted_i slices_Collect_i
  refine wps_assoc (wps_bind (slices_AppendSeq_spec hcv hm hv hN hN2) fun t => ?_)
  refine wps_bindpure ?_
  refine wps_exP fun zs => ?_
  simp only [← star_assoc]
  refine wps_prP fun hf => ?_
  have hz : zs.length ≤ N := hN zs hf.1 fun y hy => (hf.2 y).1 hy
  refine wps_sort rfl (by omega) (wps_pure ?_)
  rw [sorted_fin hf hl hml]
  exact Ent.refl _
def KeysOkN (cv : CV) : Prop := ∀ (a : Addr) (yv : Value) (Q : Value → World → Prop) (w : World), maps_Keys_g_c1 cv yv a (fun _ w' => Q (.tuple #[]) w') w → cv.enter (.func (.func fid_maps_Keys_g_c1) #[] #[.pointer (some a)]) #[yv] Q w
abbrev keysVN (c : Nat) : Value := .func (.func fid_maps_Keys_g_c1) #[] #[.pointer (some ⟨c, 0, none⟩)]
theorem keys_iterN (hcv : KeysOkN cv) {c mb clock : Nat} {es : Array MapEntry} {f : Int → Option Value} (hm : MapOk es.toList clock f) (hv : ∀ j v, f j = some v → ∃ s : Option Addr, v = Value.pointer s) :
    IterG cv (keysVN c) (fun x : Int => #[.int .i64 x]) [] (keyNx f) (keyFin f) (pc c [.map (some mb)] * po mb (.map es clock)) := by
  intro yv I E hstep g
  refine wps_enter (m := maps_Keys_g_c1 cv yv ⟨c, 0, none⟩) (fun Q w h => hcv _ _ _ _ h) ?_
  unfold maps_Keys_g_c1
  repeat (first
    | (with_reducible refine wps_bindpure ?_)
    | (with_reducible refine wps_assoc ?_)
    | (with_reducible refine wps_nil ?_)
    | (with_reducible refine wps_stepAlloc fun _ => ?_)
    | (with_reducible refine wps_alloc fun _ => ?_)
    | (with_reducible refine wps_newO fun _ => ?_)
    | (refine wps_ld _ (by rfl) ?_)
    | (refine wps_ldG _ _ _ (by rfl) ?_)
    | (refine wps_ldA _ (by rfl) ?_)
    | (refine wps_ldI _ (by rfl) ?_)
    | (refine wps_ldGI _ _ _ (by rfl) ?_)
    | (refine wps_ldAI _ (by rfl) ?_)
    | (refine wps_st (by simp) ?_)
    | (refine wps_stA (by simp) (by simp [Value.oneCell']) ?_)
    | ((with_reducible apply wps_val); apply val_ite; rotate_left; refine fun (_ : ¬ _) => ?_; rotate_right; refine fun (_ : _ = true) => ?_)
    | ((with_reducible apply val_ite); rotate_left; refine fun (_ : ¬ _) => ?_; rotate_right; refine fun (_ : _ = true) => ?_)
    | (with_reducible refine wps_regionH ?_)
    | ((with_reducible apply wps_bindV); apply val_iteL; rotate_left; refine fun (_ : ¬ _) => ?_; rotate_right; refine fun (_ : _ = true) => ?_)
    | ((with_reducible apply val_iteL); rotate_left; refine fun (_ : ¬ _) => ?_; rotate_right; refine fun (_ : _ = true) => ?_)
    | (with_reducible exact wps_pure (ent_val rfl)))
  refine wps_rangeMapF hm fun it => ?_
  refine wps_loopg (γ := List Int) (fun s _ => pr (s.Nodup ∧ ∀ y ∈ s, (f y).isSome = true) * (pc c [.map (some mb)] * I s * itrF it mb es clock f (fun i => s.contains i)))
    (fun s _ => (es.toList.filter fun e => !s.contains (keyOf e)).length) [] ?_ fun s _ => ?_
  · refine ent_prr ⟨by simp, by simp⟩ ?_
    have : (fun i : Int => ([] : List Int).contains i) = fun _ => false := by funext i; simp
    rw [this]
    refine Ent.of_eq ?_
    ac_rfl
  · refine wps_pr fun ⟨hnd, hall⟩ => ?_
    refine wps_nextF rfl (fun hend => ?_) (fun j v hj hV => ?_)
    · refine wps_mapR (wps_pure ?_)
      have : pc c [.map (some mb)] * I s * itrF it mb es clock f (fun i => s.contains i) = (pc c [.map (some mb)] * itrF it mb es clock f (fun i => s.contains i)) * I s := by ac_rfl
      rw [this]
      refine Ent.star (Ent.starr (ex_ent fun seen => pr_ent fun _ => ent_right _ _)) (ent_orl (ent_ex s (ent_prr ⟨hnd, fun y => ⟨hall y, fun hy => ?_⟩⟩ (Ent.refl _))))
      obtain ⟨v, hv⟩ := Option.isSome_iff_exists.1 hy
      simpa using hend y v hv
    · obtain ⟨sv, rfl⟩ := hv j v hj
      have hjs : j ∉ s := by simpa using hV
      have hnx : keyNx f s j (s ++ [j]) := by
        refine ⟨rfl, ?_, ?_⟩
        · rw [List.nodup_append]
          refine ⟨hnd, by simp, fun a ha b hb => ?_⟩
          simp only [List.mem_singleton] at hb
          subst hb
          exact fun e => hjs (e ▸ ha)
        · intro y hy
          rcases List.mem_append.1 hy with hy | hy
          · exact hall y hy
          · simp only [List.mem_singleton] at hy
            subst hy; rw [hj]; rfl
      obtain ⟨e, he, hk, _⟩ := (hm.find j (Value.pointer sv)).1 hj
      have hke : keyOf e = j := by
        obtain ⟨n, hn⟩ := hm.keys e he
        rw [keyIs_int hn] at hk
        simp only [keyOf, hn]
        have : j = n := by simpa using hk
        exact this.symm
      have hV' : (fun i => s.contains i || i == j) = fun i => (s ++ [j]).contains i := by
        funext i
        rw [Bool.eq_iff_iff, List.contains_append]; simp
      refine wps_entryF (ev := Value.pointer) sv rfl rfl ?_
      rw [hV']
      unfold itrF itrC
      refine wps_exP fun seen => ?_
      simp only [← star_assoc]
      refine wps_prP fun hok => ?_
      refine wps_call (F := po it (.mapIter (some mb) clock seen clock)) (A := pc c [.map (some mb)] * po mb (.map es clock) * I s) (fun g' => wps_yield (hstep s j (s ++ [j]) hnx g')) ?_ fun y => ?_
      · exact Ent.of_eq (by ac_rfl)
      cases y with
      | true =>
        refine wps_ite (fun h => absurd h (by simp)) (fun _ => wps_pure ?_)
        have hlt : (es.toList.filter fun e => !(s ++ [j]).contains (keyOf e)).length < (es.toList.filter fun e => !s.contains (keyOf e)).length := by
          refine filter_lt (a := e) (fun x hx => ?_) ?_ ?_ he
          · simp only [List.contains_append, Bool.not_or, Bool.and_eq_true] at hx
            exact hx.1
          · rw [hke, hV]; rfl
          · rw [hke]; simp
        refine Ent.trans ?_ (ent_ex (s ++ [j]) (Ent.refl _))
        rw [if_pos rfl]
        refine ent_exr seen ?_
        simp only [← star_assoc]
        exact ent_pick (ent_pick (ent_prx hok (ent_pick (ent_pick (ent_prx ⟨hnx.2.1, hnx.2.2⟩ (ent_prq hlt))))))
      | false =>
        refine wps_ite (fun _ => wps_mapR (wps_pure ?_)) (fun h => absurd rfl h)
        rw [if_neg (by simp)]
        exact Ent.trans (ent_right _ _) (Ent.starr (ent_orr (Ent.refl _)))
theorem slices_AppendSeq_specN (hcv : KeysOkN cv) {c mb clock N : Nat} {es : Array MapEntry} {f : Int → Option Value} (hm : MapOk es.toList clock f) (hv : ∀ j v, f j = some v → ∃ s : Option Addr, v = Value.pointer s)
    (hN : ∀ s : List Int, s.Nodup → (∀ y ∈ s, (f y).isSome = true) → s.length ≤ N) (hN2 : N ≤ 1073741824) :
    wps g (pc c [.map (some mb)] * po mb (.map es clock)) (slices_AppendSeq_i cv ⟨none, 0, 0⟩ (keysVN c)) fun t => pc c [.map (some mb)] * po mb (.map es clock) * ex fun zs : List Int => pr (keyFin f zs) * own 1 t (zs.map (Value.int .i64)) := by
  unfold slices_AppendSeq_i
  repeat (first
    | (with_reducible refine wps_bindpure ?_)
    | (with_reducible refine wps_assoc ?_)
    | (with_reducible refine wps_nil ?_)
    | (with_reducible refine wps_stepAlloc fun _ => ?_)
    | (with_reducible refine wps_alloc fun _ => ?_)
    | (with_reducible refine wps_newO fun _ => ?_)
    | (refine wps_ld _ (by rfl) ?_)
    | (refine wps_ldG _ _ _ (by rfl) ?_)
    | (refine wps_ldA _ (by rfl) ?_)
    | (refine wps_ldI _ (by rfl) ?_)
    | (refine wps_ldGI _ _ _ (by rfl) ?_)
    | (refine wps_ldAI _ (by rfl) ?_)
    | (refine wps_st (by simp) ?_)
    | (refine wps_stA (by simp) (by simp [Value.oneCell']) ?_)
    | ((with_reducible apply wps_val); apply val_ite; rotate_left; refine fun (_ : ¬ _) => ?_; rotate_right; refine fun (_ : _ = true) => ?_)
    | ((with_reducible apply val_ite); rotate_left; refine fun (_ : ¬ _) => ?_; rotate_right; refine fun (_ : _ = true) => ?_)
    | (with_reducible refine wps_regionH ?_)
    | ((with_reducible apply wps_bindV); apply val_iteL; rotate_left; refine fun (_ : ¬ _) => ?_; rotate_right; refine fun (_ : _ = true) => ?_)
    | ((with_reducible apply val_iteL); rotate_left; refine fun (_ : ¬ _) => ?_; rotate_right; refine fun (_ : _ = true) => ?_)
    | (with_reducible exact wps_pure (ent_val rfl)))
  rename_i x2
  refine wps_rangeG (F := emp) (fun s : List Int => ex fun t : Slc => pr (t.len = s.length ∧ s.length ≤ N) * own 1 t (s.map (Value.int .i64)) * pc x2 [vS t]) (fun _ => pr False)
    (fun s x s' t => pr (t = x) * (pc c [.map (some mb)] * po mb (.map es clock) * ex fun t : Slc => pr (t.len = s.length ∧ s.length ≤ N) * own 1 t (s.map (Value.int .i64)) * pc x2 [vS t]))
    (keys_iterN (mb := mb) hcv hm hv) ?_ ?_ ?_ ?_ ?_ ?_
  · rw [emp_star]
    refine Ent.starr ?_
    refine ent_ex nilS ?_
    have : pc x2 [Value.slice none 0 0] = emp * emp * pc x2 [vS nilS] := by rw [star_emp, emp_star]; rfl
    rw [this]
    exact Ent.starl (Ent.star (fun _ _ => ⟨rfl, Nat.zero_le _⟩) (own_nil 1))
  · intro s x s' _ g
    exact wps_pure (ent_prr rfl (Ent.refl _))
  · intro s x s' hnx t g
    refine wps_pr fun ht => ?_
    subst ht
    obtain ⟨rfl, hnd, hall⟩ := hnx
    refine wps_exP fun u => ?_
    simp only [← star_assoc]
    refine wps_prP fun ⟨hul, hsl⟩ => ?_
    have hN' := hN _ hnd hall
    repeat (first
      | (with_reducible refine wps_bindpure ?_)
      | (with_reducible refine wps_assoc ?_)
      | (with_reducible refine wps_nil ?_)
      | (with_reducible refine wps_stepAlloc fun _ => ?_)
      | (with_reducible refine wps_alloc fun _ => ?_)
      | (with_reducible refine wps_newO fun _ => ?_)
      | (refine wps_ld _ (by rfl) ?_)
      | (refine wps_ldG _ _ _ (by rfl) ?_)
      | (refine wps_ldA _ (by rfl) ?_)
      | (refine wps_ldI _ (by rfl) ?_)
      | (refine wps_ldGI _ _ _ (by rfl) ?_)
      | (refine wps_ldAI _ (by rfl) ?_)
      | (refine wps_st (by simp) ?_)
      | (refine wps_stA (by simp) (by simp [Value.oneCell']) ?_)
      | ((with_reducible apply wps_val); apply val_ite; rotate_left; refine fun (_ : ¬ _) => ?_; rotate_right; refine fun (_ : _ = true) => ?_)
      | ((with_reducible apply val_ite); rotate_left; refine fun (_ : ¬ _) => ?_; rotate_right; refine fun (_ : _ = true) => ?_)
      | (with_reducible refine wps_regionH ?_)
      | ((with_reducible apply wps_bindV); apply val_iteL; rotate_left; refine fun (_ : ¬ _) => ?_; rotate_right; refine fun (_ : _ = true) => ?_)
      | ((with_reducible apply val_iteL); rotate_left; refine fun (_ : ¬ _) => ?_; rotate_right; refine fun (_ : _ = true) => ?_)
      | (with_reducible exact wps_pure (ent_val rfl)))
    refine wps_app 1 [Value.int .i64 t] rfl (by decide) (rsl_pc rfl) (by simp [Value.oneCell']) (by (try dsimp only); omega) fun u' hu' => ?_
    repeat (first
      | (with_reducible refine wps_bindpure ?_)
      | (with_reducible refine wps_assoc ?_)
      | (with_reducible refine wps_nil ?_)
      | (with_reducible refine wps_stepAlloc fun _ => ?_)
      | (with_reducible refine wps_alloc fun _ => ?_)
      | (with_reducible refine wps_newO fun _ => ?_)
      | (refine wps_ld _ (by rfl) ?_)
      | (refine wps_ldG _ _ _ (by rfl) ?_)
      | (refine wps_ldA _ (by rfl) ?_)
      | (refine wps_ldI _ (by rfl) ?_)
      | (refine wps_ldGI _ _ _ (by rfl) ?_)
      | (refine wps_ldAI _ (by rfl) ?_)
      | (refine wps_st (by simp) ?_)
      | (refine wps_stA (by simp) (by simp [Value.oneCell']) ?_)
      | ((with_reducible apply wps_val); apply val_ite; rotate_left; refine fun (_ : ¬ _) => ?_; rotate_right; refine fun (_ : _ = true) => ?_)
      | ((with_reducible apply val_ite); rotate_left; refine fun (_ : ¬ _) => ?_; rotate_right; refine fun (_ : _ = true) => ?_)
      | (with_reducible refine wps_regionH ?_)
      | ((with_reducible apply wps_bindV); apply val_iteL; rotate_left; refine fun (_ : ¬ _) => ?_; rotate_right; refine fun (_ : _ = true) => ?_)
      | ((with_reducible apply val_iteL); rotate_left; refine fun (_ : ¬ _) => ?_; rotate_right; refine fun (_ : _ = true) => ?_)
      | (with_reducible exact wps_pure (ent_val rfl)))
    refine wps_pure ?_
    refine Ent.trans ?_ (Ent.starr (ent_ex u' (Ent.refl _)))
    simp only [← star_assoc]
    refine ent_pickC (by rfl) (ent_pickS (by simp) (ent_prx ⟨by simp [hu', hul], hN'⟩ ?_))
    exact ent_pick ent_drop
  · intro D
    refine wps_exP fun s => ?_
    simp only [← star_assoc]
    refine wps_prP fun hf => ?_
    refine wps_exP fun u => ?_
    simp only [← star_assoc]
    refine wps_prP fun hu => ?_
    repeat (first
      | (with_reducible refine wps_bindpure ?_)
      | (with_reducible refine wps_assoc ?_)
      | (with_reducible refine wps_nil ?_)
      | (with_reducible refine wps_stepAlloc fun _ => ?_)
      | (with_reducible refine wps_alloc fun _ => ?_)
      | (with_reducible refine wps_newO fun _ => ?_)
      | (refine wps_ld _ (by rfl) ?_)
      | (refine wps_ldG _ _ _ (by rfl) ?_)
      | (refine wps_ldA _ (by rfl) ?_)
      | (refine wps_ldI _ (by rfl) ?_)
      | (refine wps_ldGI _ _ _ (by rfl) ?_)
      | (refine wps_ldAI _ (by rfl) ?_)
      | (refine wps_st (by simp) ?_)
      | (refine wps_stA (by simp) (by simp [Value.oneCell']) ?_)
      | ((with_reducible apply wps_val); apply val_ite; rotate_left; refine fun (_ : ¬ _) => ?_; rotate_right; refine fun (_ : _ = true) => ?_)
      | ((with_reducible apply val_ite); rotate_left; refine fun (_ : ¬ _) => ?_; rotate_right; refine fun (_ : _ = true) => ?_)
      | (with_reducible refine wps_regionH ?_)
      | ((with_reducible apply wps_bindV); apply val_iteL; rotate_left; refine fun (_ : ¬ _) => ?_; rotate_right; refine fun (_ : _ = true) => ?_)
      | ((with_reducible apply val_iteL); rotate_left; refine fun (_ : ¬ _) => ?_; rotate_right; refine fun (_ : _ = true) => ?_)
      | (with_reducible exact wps_pure (ent_val rfl)))
    refine wps_take (wps_pure ?_)
    refine ent_exr s ?_
    simp only [← star_assoc]
    exact ent_pick (ent_prx hf (ent_pick ent_drop))
  · intro D
    exact wps_false (fun o ho => by
      have := ent_right _ _ o (ent_left _ _ o ho)
      exact ent_right _ _ o this)
  · intro D id
    exact wps_false (fun o ho => by
      have := ent_right _ _ o (ent_left _ _ o ho)
      exact ent_right _ _ o this)
theorem slices_Sorted_specN (hcv : KeysOkN cv) {c mb clock N : Nat} {es : Array MapEntry} {f : Int → Option Value} (hm : MapOk es.toList clock f) (hv : ∀ j v, f j = some v → ∃ s : Option Addr, v = Value.pointer s)
    (hN : ∀ s : List Int, s.Nodup → (∀ y ∈ s, (f y).isSome = true) → s.length ≤ N) (hN2 : N ≤ 1073741824) {l : List Int} (hl : l.Pairwise (· < ·)) (hml : ∀ y, y ∈ l ↔ (f y).isSome = true) :
    wps g (pc c [.map (some mb)] * po mb (.map es clock)) (slices_Sorted_i cv (keysVN c)) fun t => pc c [.map (some mb)] * po mb (.map es clock) * own 1 t (l.map (Value.int .i64)) := by
  unfold slices_Sorted_i slices_Collect_i
  refine wps_assoc (wps_bind (slices_AppendSeq_specN hcv hm hv hN hN2) fun t => ?_)
  refine wps_bindpure ?_
  refine wps_exP fun zs => ?_
  simp only [← star_assoc]
  refine wps_prP fun hf => ?_
  have hz : zs.length ≤ N := hN zs hf.1 fun y hy => (hf.2 y).1 hy
  refine wps_sort rfl (by omega) (wps_pure ?_)
  rw [sorted_fin hf hl hml]
  exact Ent.refl _
def KeysOkB (cv : CV) : Prop := ∀ (a : Addr) (yv : Value) (Q : Value → World → Prop) (w : World), maps_Keys_gbyte__int__gbyte__c1 cv yv a (fun _ w' => Q (.tuple #[]) w') w → cv.enter (.func (.func fid_maps_Keys_gbyte__int__gbyte__c1) #[] #[.pointer (some a)]) #[yv] Q w
abbrev keysVB (c : Nat) : Value := .func (.func fid_maps_Keys_gbyte__int__gbyte__c1) #[] #[.pointer (some ⟨c, 0, none⟩)]
theorem keys_iterB (hcv : KeysOkB cv) {c mb clock : Nat} {es : Array MapEntry} {f : Int → Option Value} (hm : MapOk es.toList clock f) (hv : ∀ j v, f j = some v → ∃ s : Slc, v = vS s) :
    IterG cv (keysVB c) (fun x : Int => #[.int .i64 x]) [] (keyNx f) (keyFin f) (pc c [.map (some mb)] * po mb (.map es clock)) := by
  intro yv I E hstep g
  refine wps_enter (m := maps_Keys_gbyte__int__gbyte__c1 cv yv ⟨c, 0, none⟩) (fun Q w h => hcv _ _ _ _ h) ?_
  unfold maps_Keys_gbyte__int__gbyte__c1
  repeat (first
    | (with_reducible refine wps_bindpure ?_)
    | (with_reducible refine wps_assoc ?_)
    | (with_reducible refine wps_nil ?_)
    | (with_reducible refine wps_stepAlloc fun _ => ?_)
    | (with_reducible refine wps_alloc fun _ => ?_)
    | (with_reducible refine wps_newO fun _ => ?_)
    | (refine wps_ld _ (by rfl) ?_)
    | (refine wps_ldG _ _ _ (by rfl) ?_)
    | (refine wps_ldA _ (by rfl) ?_)
    | (refine wps_ldI _ (by rfl) ?_)
    | (refine wps_ldGI _ _ _ (by rfl) ?_)
    | (refine wps_ldAI _ (by rfl) ?_)
    | (refine wps_st (by simp) ?_)
    | (refine wps_stA (by simp) (by simp [Value.oneCell']) ?_)
    | ((with_reducible apply wps_val); apply val_ite; rotate_left; refine fun (_ : ¬ _) => ?_; rotate_right; refine fun (_ : _ = true) => ?_)
    | ((with_reducible apply val_ite); rotate_left; refine fun (_ : ¬ _) => ?_; rotate_right; refine fun (_ : _ = true) => ?_)
    | (with_reducible refine wps_regionH ?_)
    | ((with_reducible apply wps_bindV); apply val_iteL; rotate_left; refine fun (_ : ¬ _) => ?_; rotate_right; refine fun (_ : _ = true) => ?_)
    | ((with_reducible apply val_iteL); rotate_left; refine fun (_ : ¬ _) => ?_; rotate_right; refine fun (_ : _ = true) => ?_)
    | (with_reducible exact wps_pure (ent_val rfl)))
  refine wps_rangeMapF hm fun it => ?_
  refine wps_loopg (γ := List Int) (fun s _ => pr (s.Nodup ∧ ∀ y ∈ s, (f y).isSome = true) * (pc c [.map (some mb)] * I s * itrF it mb es clock f (fun i => s.contains i)))
    (fun s _ => (es.toList.filter fun e => !s.contains (keyOf e)).length) [] ?_ fun s _ => ?_
  · refine ent_prr ⟨by simp, by simp⟩ ?_
    have : (fun i : Int => ([] : List Int).contains i) = fun _ => false := by funext i; simp
    rw [this]
    refine Ent.of_eq ?_
    ac_rfl
  · refine wps_pr fun ⟨hnd, hall⟩ => ?_
    refine wps_nextF rfl (fun hend => ?_) (fun j v hj hV => ?_)
    · refine wps_mapR (wps_pure ?_)
      have : pc c [.map (some mb)] * I s * itrF it mb es clock f (fun i => s.contains i) = (pc c [.map (some mb)] * itrF it mb es clock f (fun i => s.contains i)) * I s := by ac_rfl
      rw [this]
      refine Ent.star (Ent.starr (ex_ent fun seen => pr_ent fun _ => ent_right _ _)) (ent_orl (ent_ex s (ent_prr ⟨hnd, fun y => ⟨hall y, fun hy => ?_⟩⟩ (Ent.refl _))))
      obtain ⟨v, hv⟩ := Option.isSome_iff_exists.1 hy
      simpa using hend y v hv
    · obtain ⟨sv, rfl⟩ := hv j v hj
      have hjs : j ∉ s := by simpa using hV
      have hnx : keyNx f s j (s ++ [j]) := by
        refine ⟨rfl, ?_, ?_⟩
        · rw [List.nodup_append]
          refine ⟨hnd, by simp, fun a ha b hb => ?_⟩
          simp only [List.mem_singleton] at hb
          subst hb
          exact fun e => hjs (e ▸ ha)
        · intro y hy
          rcases List.mem_append.1 hy with hy | hy
          · exact hall y hy
          · simp only [List.mem_singleton] at hy
            subst hy; rw [hj]; rfl
      obtain ⟨e, he, hk, _⟩ := (hm.find j (vS sv)).1 hj
      have hke : keyOf e = j := by
        obtain ⟨n, hn⟩ := hm.keys e he
        rw [keyIs_int hn] at hk
        simp only [keyOf, hn]
        have : j = n := by simpa using hk
        exact this.symm
      have hV' : (fun i => s.contains i || i == j) = fun i => (s ++ [j]).contains i := by
        funext i
        rw [Bool.eq_iff_iff, List.contains_append]; simp
      refine wps_entryF (ev := vS) sv rfl rfl ?_
      rw [hV']
      unfold itrF itrC
      refine wps_exP fun seen => ?_
      simp only [← star_assoc]
      refine wps_prP fun hok => ?_
      refine wps_call (F := po it (.mapIter (some mb) clock seen clock)) (A := pc c [.map (some mb)] * po mb (.map es clock) * I s) (fun g' => wps_yield (hstep s j (s ++ [j]) hnx g')) ?_ fun y => ?_
      · exact Ent.of_eq (by ac_rfl)
      cases y with
      | true =>
        refine wps_ite (fun h => absurd h (by simp)) (fun _ => wps_pure ?_)
        have hlt : (es.toList.filter fun e => !(s ++ [j]).contains (keyOf e)).length < (es.toList.filter fun e => !s.contains (keyOf e)).length := by
          refine filter_lt (a := e) (fun x hx => ?_) ?_ ?_ he
          · simp only [List.contains_append, Bool.not_or, Bool.and_eq_true] at hx
            exact hx.1
          · rw [hke, hV]; rfl
          · rw [hke]; simp
        refine Ent.trans ?_ (ent_ex (s ++ [j]) (Ent.refl _))
        rw [if_pos rfl]
        refine ent_exr seen ?_
        simp only [← star_assoc]
        exact ent_pick (ent_pick (ent_prx hok (ent_pick (ent_pick (ent_prx ⟨hnx.2.1, hnx.2.2⟩ (ent_prq hlt))))))
      | false =>
        refine wps_ite (fun _ => wps_mapR (wps_pure ?_)) (fun h => absurd rfl h)
        rw [if_neg (by simp)]
        exact Ent.trans (ent_right _ _) (Ent.starr (ent_orr (Ent.refl _)))
theorem slices_AppendSeq_specB (hcv : KeysOkB cv) {c mb clock N : Nat} {es : Array MapEntry} {f : Int → Option Value} (hm : MapOk es.toList clock f) (hv : ∀ j v, f j = some v → ∃ s : Slc, v = vS s)
    (hN : ∀ s : List Int, s.Nodup → (∀ y ∈ s, (f y).isSome = true) → s.length ≤ N) (hN2 : N ≤ 1073741824) :
    wps g (pc c [.map (some mb)] * po mb (.map es clock)) (slices_AppendSeq_i cv ⟨none, 0, 0⟩ (keysVB c)) fun t => pc c [.map (some mb)] * po mb (.map es clock) * ex fun zs : List Int => pr (keyFin f zs) * own 1 t (zs.map (Value.int .i64)) := by
  unfold slices_AppendSeq_i
  repeat (first
    | (with_reducible refine wps_bindpure ?_)
    | (with_reducible refine wps_assoc ?_)
    | (with_reducible refine wps_nil ?_)
    | (with_reducible refine wps_stepAlloc fun _ => ?_)
    | (with_reducible refine wps_alloc fun _ => ?_)
    | (with_reducible refine wps_newO fun _ => ?_)
    | (refine wps_ld _ (by rfl) ?_)
    | (refine wps_ldG _ _ _ (by rfl) ?_)
    | (refine wps_ldA _ (by rfl) ?_)
    | (refine wps_ldI _ (by rfl) ?_)
    | (refine wps_ldGI _ _ _ (by rfl) ?_)
    | (refine wps_ldAI _ (by rfl) ?_)
    | (refine wps_st (by simp) ?_)
    | (refine wps_stA (by simp) (by simp [Value.oneCell']) ?_)
    | ((with_reducible apply wps_val); apply val_ite; rotate_left; refine fun (_ : ¬ _) => ?_; rotate_right; refine fun (_ : _ = true) => ?_)
    | ((with_reducible apply val_ite); rotate_left; refine fun (_ : ¬ _) => ?_; rotate_right; refine fun (_ : _ = true) => ?_)
    | (with_reducible refine wps_regionH ?_)
    | ((with_reducible apply wps_bindV); apply val_iteL; rotate_left; refine fun (_ : ¬ _) => ?_; rotate_right; refine fun (_ : _ = true) => ?_)
    | ((with_reducible apply val_iteL); rotate_left; refine fun (_ : ¬ _) => ?_; rotate_right; refine fun (_ : _ = true) => ?_)
    | (with_reducible exact wps_pure (ent_val rfl)))
  rename_i x2
  refine wps_rangeG (F := emp) (fun s : List Int => ex fun t : Slc => pr (t.len = s.length ∧ s.length ≤ N) * own 1 t (s.map (Value.int .i64)) * pc x2 [vS t]) (fun _ => pr False)
    (fun s x s' t => pr (t = x) * (pc c [.map (some mb)] * po mb (.map es clock) * ex fun t : Slc => pr (t.len = s.length ∧ s.length ≤ N) * own 1 t (s.map (Value.int .i64)) * pc x2 [vS t]))
    (keys_iterB (mb := mb) hcv hm hv) ?_ ?_ ?_ ?_ ?_ ?_
  · rw [emp_star]
    refine Ent.starr ?_
    refine ent_ex nilS ?_
    have : pc x2 [Value.slice none 0 0] = emp * emp * pc x2 [vS nilS] := by rw [star_emp, emp_star]; rfl
    rw [this]
    exact Ent.starl (Ent.star (fun _ _ => ⟨rfl, Nat.zero_le _⟩) (own_nil 1))
  · intro s x s' _ g
    exact wps_pure (ent_prr rfl (Ent.refl _))
  · intro s x s' hnx t g
    refine wps_pr fun ht => ?_
    subst ht
    obtain ⟨rfl, hnd, hall⟩ := hnx
    refine wps_exP fun u => ?_
    simp only [← star_assoc]
    refine wps_prP fun ⟨hul, hsl⟩ => ?_
    have hN' := hN _ hnd hall
    repeat (first
      | (with_reducible refine wps_bindpure ?_)
      | (with_reducible refine wps_assoc ?_)
      | (with_reducible refine wps_nil ?_)
      | (with_reducible refine wps_stepAlloc fun _ => ?_)
      | (with_reducible refine wps_alloc fun _ => ?_)
      | (with_reducible refine wps_newO fun _ => ?_)
      | (refine wps_ld _ (by rfl) ?_)
      | (refine wps_ldG _ _ _ (by rfl) ?_)
      | (refine wps_ldA _ (by rfl) ?_)
      | (refine wps_ldI _ (by rfl) ?_)
      | (refine wps_ldGI _ _ _ (by rfl) ?_)
      | (refine wps_ldAI _ (by rfl) ?_)
      | (refine wps_st (by simp) ?_)
      | (refine wps_stA (by simp) (by simp [Value.oneCell']) ?_)
      | ((with_reducible apply wps_val); apply val_ite; rotate_left; refine fun (_ : ¬ _) => ?_; rotate_right; refine fun (_ : _ = true) => ?_)
      | ((with_reducible apply val_ite); rotate_left; refine fun (_ : ¬ _) => ?_; rotate_right; refine fun (_ : _ = true) => ?_)
      | (with_reducible refine wps_regionH ?_)
      | ((with_reducible apply wps_bindV); apply val_iteL; rotate_left; refine fun (_ : ¬ _) => ?_; rotate_right; refine fun (_ : _ = true) => ?_)
      | ((with_reducible apply val_iteL); rotate_left; refine fun (_ : ¬ _) => ?_; rotate_right; refine fun (_ : _ = true) => ?_)
      | (with_reducible exact wps_pure (ent_val rfl)))
    refine wps_app 1 [Value.int .i64 t] rfl (by decide) (rsl_pc rfl) (by simp [Value.oneCell']) (by (try dsimp only); omega) fun u' hu' => ?_
    repeat (first
      | (with_reducible refine wps_bindpure ?_)
      | (with_reducible refine wps_assoc ?_)
      | (with_reducible refine wps_nil ?_)
      | (with_reducible refine wps_stepAlloc fun _ => ?_)
      | (with_reducible refine wps_alloc fun _ => ?_)
      | (with_reducible refine wps_newO fun _ => ?_)
      | (refine wps_ld _ (by rfl) ?_)
      | (refine wps_ldG _ _ _ (by rfl) ?_)
      | (refine wps_ldA _ (by rfl) ?_)
      | (refine wps_ldI _ (by rfl) ?_)
      | (refine wps_ldGI _ _ _ (by rfl) ?_)
      | (refine wps_ldAI _ (by rfl) ?_)
      | (refine wps_st (by simp) ?_)
      | (refine wps_stA (by simp) (by simp [Value.oneCell']) ?_)
      | ((with_reducible apply wps_val); apply val_ite; rotate_left; refine fun (_ : ¬ _) => ?_; rotate_right; refine fun (_ : _ = true) => ?_)
      | ((with_reducible apply val_ite); rotate_left; refine fun (_ : ¬ _) => ?_; rotate_right; refine fun (_ : _ = true) => ?_)
      | (with_reducible refine wps_regionH ?_)
      | ((with_reducible apply wps_bindV); apply val_iteL; rotate_left; refine fun (_ : ¬ _) => ?_; rotate_right; refine fun (_ : _ = true) => ?_)
      | ((with_reducible apply val_iteL); rotate_left; refine fun (_ : ¬ _) => ?_; rotate_right; refine fun (_ : _ = true) => ?_)
      | (with_reducible exact wps_pure (ent_val rfl)))
    refine wps_pure ?_
    refine Ent.trans ?_ (Ent.starr (ent_ex u' (Ent.refl _)))
    simp only [← star_assoc]
    refine ent_pickC (by rfl) (ent_pickS (by simp) (ent_prx ⟨by simp [hu', hul], hN'⟩ ?_))
    exact ent_pick ent_drop
  · intro D
    refine wps_exP fun s => ?_
    simp only [← star_assoc]
    refine wps_prP fun hf => ?_
    refine wps_exP fun u => ?_
    simp only [← star_assoc]
    refine wps_prP fun hu => ?_
    repeat (first
      | (with_reducible refine wps_bindpure ?_)
      | (with_reducible refine wps_assoc ?_)
      | (with_reducible refine wps_nil ?_)
      | (with_reducible refine wps_stepAlloc fun _ => ?_)
      | (with_reducible refine wps_alloc fun _ => ?_)
      | (with_reducible refine wps_newO fun _ => ?_)
      | (refine wps_ld _ (by rfl) ?_)
      | (refine wps_ldG _ _ _ (by rfl) ?_)
      | (refine wps_ldA _ (by rfl) ?_)
      | (refine wps_ldI _ (by rfl) ?_)
      | (refine wps_ldGI _ _ _ (by rfl) ?_)
      | (refine wps_ldAI _ (by rfl) ?_)
      | (refine wps_st (by simp) ?_)
      | (refine wps_stA (by simp) (by simp [Value.oneCell']) ?_)
      | ((with_reducible apply wps_val); apply val_ite; rotate_left; refine fun (_ : ¬ _) => ?_; rotate_right; refine fun (_ : _ = true) => ?_)
      | ((with_reducible apply val_ite); rotate_left; refine fun (_ : ¬ _) => ?_; rotate_right; refine fun (_ : _ = true) => ?_)
      | (with_reducible refine wps_regionH ?_)
      | ((with_reducible apply wps_bindV); apply val_iteL; rotate_left; refine fun (_ : ¬ _) => ?_; rotate_right; refine fun (_ : _ = true) => ?_)
      | ((with_reducible apply val_iteL); rotate_left; refine fun (_ : ¬ _) => ?_; rotate_right; refine fun (_ : _ = true) => ?_)
      | (with_reducible exact wps_pure (ent_val rfl)))
    refine wps_take (wps_pure ?_)
    refine ent_exr s ?_
    simp only [← star_assoc]
    exact ent_pick (ent_prx hf (ent_pick ent_drop))
  · intro D
    exact wps_false (fun o ho => by
      have := ent_right _ _ o (ent_left _ _ o ho)
      exact ent_right _ _ o this)
  · intro D id
    exact wps_false (fun o ho => by
      have := ent_right _ _ o (ent_left _ _ o ho)
      exact ent_right _ _ o this)
theorem slices_Sorted_specB (hcv : KeysOkB cv) {c mb clock N : Nat} {es : Array MapEntry} {f : Int → Option Value} (hm : MapOk es.toList clock f) (hv : ∀ j v, f j = some v → ∃ s : Slc, v = vS s)
    (hN : ∀ s : List Int, s.Nodup → (∀ y ∈ s, (f y).isSome = true) → s.length ≤ N) (hN2 : N ≤ 1073741824) {l : List Int} (hl : l.Pairwise (· < ·)) (hml : ∀ y, y ∈ l ↔ (f y).isSome = true) :
    wps g (pc c [.map (some mb)] * po mb (.map es clock)) (slices_Sorted_i cv (keysVB c)) fun t => pc c [.map (some mb)] * po mb (.map es clock) * own 1 t (l.map (Value.int .i64)) := by
  unfold slices_Sorted_i slices_Collect_i
  refine wps_assoc (wps_bind (slices_AppendSeq_specB hcv hm hv hN hN2) fun t => ?_)
  refine wps_bindpure ?_
  refine wps_exP fun zs => ?_
  simp only [← star_assoc]
  refine wps_prP fun hf => ?_
  have hz : zs.length ≤ N := hN zs hf.1 fun y hy => (hf.2 y).1 hy
  refine wps_sort rfl (by omega) (wps_pure ?_)
  rw [sorted_fin hf hl hml]
  exact Ent.refl _
end Go.Proofs.Ytldmeimebebllaa
namespace Go.Proofs.Ytldmeimebebllaa
open Go.Mo Go.Shelf
set_option maxRecDepth 100000
def sortRen : Go.Shelf.Ren := ⟨fun | 5 => 126 | 8 => 204 | 7 => 203 | 19 => 279 | 20 => 280 | 10 => 270 | 11 => 271 | 12 => 272 | 13 => 273 | 14 => 274 | 15 => 275 | 16 => 276 | 17 => 277 | 18 => 278 | 30 => 317 | 31 => 318 | 32 => 319 | 33 => 320 | 34 => 321 | 35 => 269 | 40 => 362 | n => n, fun | 23 => 37 | 25 => 3 | 3 => 3 | 32 => 305 | 22 => 37 | 0 => 0 | 44 => 378 | 46 => 380 | 4 => 4 | 36 => 372 | 35 => 371 | 41 => 224 | 5 => 5 | 9 => 9 | 53 => 413 | 57 => 417 | 63 => 448 | 64 => 113 | n => n, fun | n => n⟩
theorem sortLay : SlLaysM.n5 Tryz.prog sortRen := {
  mixed := by kernel_rfl,
  f5 := ⟨Tryz.f126.name, by decide, Tryz.func126.trans (congrArg some (by kernel_rfl))⟩,
  f7 := ⟨Tryz.f203.name, by decide, Tryz.func203.trans (congrArg some (by kernel_rfl))⟩,
  f8 := Tryz.func204.trans (congrArg some (by kernel_rfl)),
  f10 := ⟨Tryz.f270.name, by decide, Tryz.func270.trans (congrArg some (by kernel_rfl))⟩,
  f11 := ⟨Tryz.f271.name, by decide, Tryz.func271.trans (congrArg some (by kernel_rfl))⟩,
  f12 := ⟨Tryz.f272.name, by decide, Tryz.func272.trans (congrArg some (by kernel_rfl))⟩,
  f13 := ⟨Tryz.f273.name, by decide, Tryz.func273.trans (congrArg some (by kernel_rfl))⟩,
  f14 := ⟨Tryz.f274.name, by decide, Tryz.func274.trans (congrArg some (by kernel_rfl))⟩,
  f15 := ⟨Tryz.f275.name, by decide, Tryz.func275.trans (congrArg some (by kernel_rfl))⟩,
  f16 := ⟨Tryz.f276.name, by decide, Tryz.func276.trans (congrArg some (by kernel_rfl))⟩,
  f17 := ⟨Tryz.f277.name, by decide, Tryz.func277.trans (congrArg some (by kernel_rfl))⟩,
  f18 := ⟨Tryz.f278.name, by decide, Tryz.func278.trans (congrArg some (by kernel_rfl))⟩,
  f19 := Tryz.func279.trans (congrArg some (by kernel_rfl)),
  f20 := Tryz.func280.trans (congrArg some (by kernel_rfl)),
  f30 := ⟨Tryz.f317.name, by decide, Tryz.func317.trans (congrArg some (by kernel_rfl))⟩,
  f31 := Tryz.func318.trans (congrArg some (by kernel_rfl)),
  f32 := Tryz.func319.trans (congrArg some (by kernel_rfl)),
  f33 := ⟨Tryz.f320.name, by decide, Tryz.func320.trans (congrArg some (by kernel_rfl))⟩,
  f34 := ⟨Tryz.f321.name, by decide, Tryz.func321.trans (congrArg some (by kernel_rfl))⟩,
  f35 := ⟨Tryz.f269.name, by decide, Tryz.func269.trans (congrArg some (by kernel_rfl))⟩,
  f40 := ⟨Tryz.f362.name, by decide, Tryz.func362.trans (congrArg some (by kernel_rfl))⟩,
  t0 := Tryz.underlying0,
  a0 := Tryz.isAgg0,
  z0 := Tryz.sizeOf0,
  v0 := Tryz.zeroValue0,
  t3 := Tryz.underlying3,
  a3 := Tryz.isAgg3,
  z3 := Tryz.sizeOf3,
  v3 := Tryz.zeroValue3,
  t4 := Tryz.underlying4,
  a4 := Tryz.isAgg4,
  z4 := Tryz.sizeOf4,
  v4 := Tryz.zeroValue4,
  t5 := Tryz.underlying5,
  a5 := Tryz.isAgg5,
  z5 := Tryz.sizeOf5,
  v5 := Tryz.zeroValue5,
  t9 := Tryz.underlying9,
  a9 := Tryz.isAgg9,
  z9 := Tryz.sizeOf9,
  v9 := Tryz.zeroValue9,
  t22 := Tryz.underlying37,
  a22 := Tryz.isAgg37,
  z22 := Tryz.sizeOf37,
  v22 := Tryz.zeroValue37,
  t23 := Tryz.underlying37,
  a23 := Tryz.isAgg37,
  z23 := Tryz.sizeOf37,
  v23 := Tryz.zeroValue37,
  t25 := Tryz.underlying3,
  a25 := Tryz.isAgg3,
  z25 := Tryz.sizeOf3,
  v25 := Tryz.zeroValue3,
  t32 := Tryz.underlying305,
  a32 := Tryz.isAgg305,
  z32 := Tryz.sizeOf305,
  v32 := Tryz.zeroValue305,
  t35 := Tryz.underlying371,
  a35 := Tryz.isAgg371,
  z35 := Tryz.sizeOf371,
  v35 := Tryz.zeroValue371,
  t36 := Tryz.underlying372,
  a36 := Tryz.isAgg372,
  z36 := Tryz.sizeOf372,
  v36 := Tryz.zeroValue372,
  t41 := Tryz.underlying224,
  a41 := Tryz.isAgg224,
  z41 := Tryz.sizeOf224,
  v41 := Tryz.zeroValue224,
  t44 := Tryz.underlying378,
  a44 := Tryz.isAgg378,
  z44 := Tryz.sizeOf378,
  v44 := Tryz.zeroValue378,
  t46 := Tryz.underlying380,
  a46 := Tryz.isAgg380,
  z46 := Tryz.sizeOf380,
  v46 := Tryz.zeroValue380,
  t53 := Tryz.underlying413,
  a53 := Tryz.isAgg413,
  z53 := Tryz.sizeOf413,
  v53 := Tryz.zeroValue413,
  t57 := Tryz.underlying417,
  a57 := Tryz.isAgg417,
  z57 := Tryz.sizeOf417,
  v57 := Tryz.zeroValue417,
  t63 := Tryz.underlying448,
  a63 := Tryz.isAgg448,
  z63 := Tryz.sizeOf448,
  v63 := Tryz.zeroValue448,
  t64 := Tryz.underlying113,
  a64 := Tryz.isAgg113,
  z64 := Tryz.sizeOf113,
  v64 := Tryz.zeroValue113
}
theorem slices_Sort_i_sim (p0 : Slc) (Qf : Unit → World → Prop) (w : World) (hm : sortM p0 Qf w) : Calls Tryz.prog 126 #[.slice p0.base p0.len p0.cap] w (RetPost (fun _ : Unit => .tuple #[]) Qf) := sortM_sim sortLay p0 Qf w hm
end Go.Proofs.Ytldmeimebebllaa
namespace Go.Proofs.Ytldmeimebebllaa
open Go.Mo
set_option linter.unusedVariables false
set_option maxRecDepth 100000 in
theorem slices_AppendSeq_i_sim (p0_s : Slc) (p1_seq : Value) (Qf : Slc → World → Prop) (w : World) (hm : slices_AppendSeq_i (cvOf Tryz.prog) p0_s p1_seq Qf w) : Calls Tryz.prog 230 #[(.slice p0_s.base p0_s.len p0_s.cap), p1_seq] w (RetPost vS Qf) := by
  refine calls_of (fn := Tryz.f230) (l := [(.slice p0_s.base p0_s.len p0_s.cap), p1_seq]) (m := slices_AppendSeq_i (cvOf Tryz.prog) p0_s p1_seq) 13 (by kernel_rfl) rfl rfl rfl (fun Qf0 => ?_) Qf w hm
  clear hm w Qf
  unfold slices_AppendSeq_i
  refine SC.seq ?_
  refine SC.region' ?_
  refine KT.nw 2 (fun ad => .pointer (some ad)) 37 (fun x2 => ?_)
  refine KT.pv 4 (.slice none 0 0) ?_
  refine KT.nil ?_
  refine SX.seq ?_
  refine SC.seq ?_
  refine SC.seq ?_
  refine SC.region' ?_
  refine KT.pv 6 p1_seq ?_
  refine KT.nil ?_
  refine SX.seq ?_
  refine SC.block ?_
  refine SC.rangeF (ξ := (Int)) (τ := (Int)) (fv := p1_seq) (ps := [7]) (encX := (fun x_1 : (Int) => [(.int .i64 x_1)])) (fun t_1 => [(2, (.pointer (some x2))), (5, (.int .i64 t_1))]) rfl (fun _ => rfl) rfl (fun _ x_1 _ _ h1 => ?_) (fun _ _ _ t_1 => ?_) (fun D1 => ?_) (fun D1 => ?_) (fun D1 i1 => ?_)
  refine SC.region' ?_
  refine KT.pv 5 (.int .i64 x_1) ?_
  refine KT.nil ?_
  exact SX.leafP h1 (.cons rfl (.cons rfl (.nil)))
  refine SC.block ?_
  refine SC.region' ?_
  refine KT.l 8 (fun x8 => ?_)
  refine KT.pv 9 (.int .i64 t_1) ?_
  refine KT.nw 10 (fun ad => .slice (some ad) 1 1) 3 (fun x10 => ?_)
  refine KT.ow rfl (OW.append (d := 11) (s := x8) (x := ⟨some x10, 1, 1⟩) [(.int .i64 0)] 8 3 _ _ _ _ rfl rfl rfl rfl (by kernel_rfl) (by kernel_rfl) rfl rfl rfl (fun x11 => ?_))
  refine KT.s ?_
  refine KT.nil ?_
  refine SX.block ?_
  exact SX.round_next
  refine SX.block ?_
  refine SX.seq ?_
  refine SC.seq ?_
  refine SC.region' ?_
  refine KT.l 12 (fun x12 => ?_)
  refine KT.pv 4 (.slice x12.base x12.len x12.cap) ?_
  refine KT.nil ?_
  refine SX.seq ?_
  refine SC.ret ?_
  refine SX.ret [.tmp 4] rfl ?_
  refine RS.tmp (.slice x12.base x12.len x12.cap) rfl ?_
  exact RS.nil rfl
  exact SX.fail
  exact SX.fail
set_option maxRecDepth 100000 in
theorem slices_Collect_i_sim (p0_seq : Value) (Qf : Slc → World → Prop) (w : World) (hm : slices_Collect_i (cvOf Tryz.prog) p0_seq Qf w) : Calls Tryz.prog 161 #[p0_seq] w (RetPost vS Qf) := by
  refine calls_of (fn := Tryz.f161) (l := [p0_seq]) (m := slices_Collect_i (cvOf Tryz.prog) p0_seq) 5 (by kernel_rfl) rfl rfl rfl (fun Qf0 => ?_) Qf w hm
  clear hm w Qf
  unfold slices_Collect_i
  refine SC.seq ?_
  refine SC.region' ?_
  refine KT.pv 2 (.slice none 0 0) ?_
  refine KT.nil ?_
  refine SX.seq ?_
  refine SC.seq ?_
  refine SC.region' ?_
  refine KT.pv 3 p0_seq ?_
  refine KT.cl vS 4 230 #[(.slice none 0 0), p0_seq] (slices_AppendSeq_i_sim (⟨none, 0, 0⟩) p0_seq) (fun x4 => ?_)
  refine KT.pv 2 (.slice x4.base x4.len x4.cap) ?_
  refine KT.nil ?_
  refine SX.seq ?_
  refine SC.ret ?_
  refine SX.ret [.tmp 2] rfl ?_
  refine RS.tmp (.slice x4.base x4.len x4.cap) rfl ?_
  exact RS.nil rfl
set_option maxRecDepth 100000 in
theorem slices_Sorted_i_sim (p0_seq : Value) (Qf : Slc → World → Prop) (w : World) (hm : slices_Sorted_i (cvOf Tryz.prog) p0_seq Qf w) : Calls Tryz.prog 87 #[p0_seq] w (RetPost vS Qf) := by
  refine calls_of (fn := Tryz.f87) (l := [p0_seq]) (m := slices_Sorted_i (cvOf Tryz.prog) p0_seq) 9 (by kernel_rfl) rfl rfl rfl (fun Qf0 => ?_) Qf w hm
  clear hm w Qf
  unfold slices_Sorted_i
  refine SC.seq ?_
  refine SC.region' ?_
  refine KT.pv 2 (.slice none 0 0) ?_
  refine KT.nil ?_
  refine SX.seq ?_
  refine SC.seq ?_
  refine SC.region' ?_
  refine KT.pv 4 p0_seq ?_
  refine KT.cl vS 5 161 #[p0_seq] (slices_Collect_i_sim p0_seq) (fun x5 => ?_)
  refine KT.pv 3 (.slice x5.base x5.len x5.cap) ?_
  refine KT.nil ?_
  refine SX.seq ?_
  refine SC.seq ?_
  refine SC.region' ?_
  refine KT.pv 6 (.slice x5.base x5.len x5.cap) ?_
  refine KT.cl (fun y : Unit => (.tuple #[])) 7 126 #[(.slice x5.base x5.len x5.cap)] (slices_Sort_i_sim x5) (fun x7 => ?_)
  refine KT.nil ?_
  refine SX.seq ?_
  refine SC.seq ?_
  refine SC.region' ?_
  refine KT.pv 8 (.slice x5.base x5.len x5.cap) ?_
  refine KT.pv 2 (.slice x5.base x5.len x5.cap) ?_
  refine KT.nil ?_
  refine SX.seq ?_
  refine SC.ret ?_
  refine SX.ret [.tmp 2] rfl ?_
  refine RS.tmp (.slice x5.base x5.len x5.cap) rfl ?_
  exact RS.nil rfl
set_option maxRecDepth 100000 in
theorem maps_Keys_m_c1_sim (p0_yield : Value) (p1_a : Addr) (Qf : Unit → World → Prop) (w : World) (hm : maps_Keys_m_c1 (cvOf Tryz.prog) p0_yield p1_a Qf w) : Calls Tryz.prog 162 #[p0_yield, (.pointer (some p1_a))] w (RetPost (fun y : Unit => (.tuple #[])) Qf) := by
  refine calls_of (fn := Tryz.f162) (l := [p0_yield, (.pointer (some p1_a))]) (m := maps_Keys_m_c1 (cvOf Tryz.prog) p0_yield p1_a) 14 (by kernel_rfl) rfl rfl rfl (fun Qf0 => ?_) Qf w hm
  clear hm w Qf
  unfold maps_Keys_m_c1
  refine SC.seq ?_
  refine SC.region' ?_
  refine KT.l 4 (fun x4 => ?_)
  refine KT.ow rfl (OW.rangeMap (d := 5) _ _ 3 30 rfl rfl (by kernel_rfl) rfl rfl (fun x5 => ?_))
  refine KT.nil ?_
  refine SX.seq ?_
  refine SC.block ?_
  refine SC.loop (σ := Unit) (fun s1 => [(0, p0_yield), (5, (.pointer (some x5)))]) (.cons rfl (.cons rfl (.nil))) (fun _ _ _ s1 => ?_)
  refine SC.seq ?_
  refine SC.region' ?_
  refine KT.ow rfl (OW.next (d := 6) _ rfl rfl rfl rfl (fun y6 => ?_))
  refine KT.opt (y := y6) 6 rfl ?_ (fun e6 => ?_)
  refine KT.pv 7 (.bool false) ?_
  refine KT.nil ?_
  refine SX.seq ?_
  refine SC.seq ?_
  refine SC.cond_false rfl ?_
  refine SC.exit ?_
  refine SX.then_exit ?_
  refine SX.loop_exit ?_
  refine SX.block_hit ?_
  refine SX.endBody [] rfl ?_
  exact RS.nil rfl
  refine KT.pv 7 (.bool true) ?_
  refine KT.nil ?_
  refine SX.seq ?_
  refine SC.seq ?_
  refine SC.cond_true rfl ?_
  refine SC.skip ?_
  refine SX.seq ?_
  refine SC.block ?_
  refine SC.seq ?_
  refine SC.region' ?_
  refine KT.ow rfl (OW.entry (d := 8) (ek := (Value.int .i64)) (evv := vS) _ rfl rfl rfl rfl (fun x8 => ?_))
  refine KT.pv 9 (.int .i64 x8.1) ?_
  refine KT.pv 3 (.int .i64 x8.1) ?_
  refine KT.nil ?_
  refine SX.seq ?_
  refine SC.seq ?_
  refine SC.region' ?_
  refine KT.pv 10 p0_yield ?_
  refine KT.pv 11 (.int .i64 x8.1) ?_
  refine KT.ow rfl (OW.callv (d := 12) (enc := Value.bool) (vs := [(.int .i64 x8.1)]) _ [.tmp 11] _ rfl rfl rfl rfl rfl (fun x12 => ?_))
  refine KT.pv 13 (.bool (!x12)) ?_
  refine KT.nil ?_
  refine SX.seq ?_
  refine SC.cond (b := !x12) rfl ?_ ?_
  refine SC.ret ?_
  refine SX.block_ret ?_
  refine SX.loop_ret ?_
  refine SX.block_ret ?_
  refine SX.ret [] rfl ?_
  exact RS.nil rfl
  refine SC.skip ?_
  refine SX.block ?_
  exact SX.loop_next (.cons rfl (.cons rfl (.nil)))
set_option maxRecDepth 100000 in
theorem maps_Keys_g_c1_sim (p0_yield : Value) (p1_a : Addr) (Qf : Unit → World → Prop) (w : World) (hm : maps_Keys_g_c1 (cvOf Tryz.prog) p0_yield p1_a Qf w) : Calls Tryz.prog 257 #[p0_yield, (.pointer (some p1_a))] w (RetPost (fun y : Unit => (.tuple #[])) Qf) := by
  refine calls_of (fn := Tryz.f257) (l := [p0_yield, (.pointer (some p1_a))]) (m := maps_Keys_g_c1 (cvOf Tryz.prog) p0_yield p1_a) 14 (by kernel_rfl) rfl rfl rfl (fun Qf0 => ?_) Qf w hm
  clear hm w Qf
  unfold maps_Keys_g_c1
  refine SC.seq ?_
  refine SC.region' ?_
  refine KT.l 4 (fun x4 => ?_)
  refine KT.ow rfl (OW.rangeMap (d := 5) _ _ 3 101 rfl rfl (by kernel_rfl) rfl rfl (fun x5 => ?_))
  refine KT.nil ?_
  refine SX.seq ?_
  refine SC.block ?_
  refine SC.loop (σ := Unit) (fun s1 => [(0, p0_yield), (5, (.pointer (some x5)))]) (.cons rfl (.cons rfl (.nil))) (fun _ _ _ s1 => ?_)
  refine SC.seq ?_
  refine SC.region' ?_
  refine KT.ow rfl (OW.next (d := 6) _ rfl rfl rfl rfl (fun y6 => ?_))
  refine KT.opt (y := y6) 6 rfl ?_ (fun e6 => ?_)
  refine KT.pv 7 (.bool false) ?_
  refine KT.nil ?_
  refine SX.seq ?_
  refine SC.seq ?_
  refine SC.cond_false rfl ?_
  refine SC.exit ?_
  refine SX.then_exit ?_
  refine SX.loop_exit ?_
  refine SX.block_hit ?_
  refine SX.endBody [] rfl ?_
  exact RS.nil rfl
  refine KT.pv 7 (.bool true) ?_
  refine KT.nil ?_
  refine SX.seq ?_
  refine SC.seq ?_
  refine SC.cond_true rfl ?_
  refine SC.skip ?_
  refine SX.seq ?_
  refine SC.block ?_
  refine SC.seq ?_
  refine SC.region' ?_
  refine KT.ow rfl (OW.entry (d := 8) (ek := (Value.int .i64)) (evv := Value.pointer) _ rfl rfl rfl rfl (fun x8 => ?_))
  refine KT.pv 9 (.int .i64 x8.1) ?_
  refine KT.pv 3 (.int .i64 x8.1) ?_
  refine KT.nil ?_
  refine SX.seq ?_
  refine SC.seq ?_
  refine SC.region' ?_
  refine KT.pv 10 p0_yield ?_
  refine KT.pv 11 (.int .i64 x8.1) ?_
  refine KT.ow rfl (OW.callv (d := 12) (enc := Value.bool) (vs := [(.int .i64 x8.1)]) _ [.tmp 11] _ rfl rfl rfl rfl rfl (fun x12 => ?_))
  refine KT.pv 13 (.bool (!x12)) ?_
  refine KT.nil ?_
  refine SX.seq ?_
  refine SC.cond (b := !x12) rfl ?_ ?_
  refine SC.ret ?_
  refine SX.block_ret ?_
  refine SX.loop_ret ?_
  refine SX.block_ret ?_
  refine SX.ret [] rfl ?_
  exact RS.nil rfl
  refine SC.skip ?_
  refine SX.block ?_
  exact SX.loop_next (.cons rfl (.cons rfl (.nil)))
set_option maxRecDepth 100000 in
theorem maps_Keys_gbyte__int__gbyte__c1_sim (p0_yield : Value) (p1_a : Addr) (Qf : Unit → World → Prop) (w : World) (hm : maps_Keys_gbyte__int__gbyte__c1 (cvOf Tryz.prog) p0_yield p1_a Qf w) : Calls Tryz.prog 258 #[p0_yield, (.pointer (some p1_a))] w (RetPost (fun y : Unit => (.tuple #[])) Qf) := by
  refine calls_of (fn := Tryz.f258) (l := [p0_yield, (.pointer (some p1_a))]) (m := maps_Keys_gbyte__int__gbyte__c1 (cvOf Tryz.prog) p0_yield p1_a) 14 (by kernel_rfl) rfl rfl rfl (fun Qf0 => ?_) Qf w hm
  clear hm w Qf
  unfold maps_Keys_gbyte__int__gbyte__c1
  refine SC.seq ?_
  refine SC.region' ?_
  refine KT.l 4 (fun x4 => ?_)
  refine KT.ow rfl (OW.rangeMap (d := 5) _ _ 3 30 rfl rfl (by kernel_rfl) rfl rfl (fun x5 => ?_))
  refine KT.nil ?_
  refine SX.seq ?_
  refine SC.block ?_
  refine SC.loop (σ := Unit) (fun s1 => [(0, p0_yield), (5, (.pointer (some x5)))]) (.cons rfl (.cons rfl (.nil))) (fun _ _ _ s1 => ?_)
  refine SC.seq ?_
  refine SC.region' ?_
  refine KT.ow rfl (OW.next (d := 6) _ rfl rfl rfl rfl (fun y6 => ?_))
  refine KT.opt (y := y6) 6 rfl ?_ (fun e6 => ?_)
  refine KT.pv 7 (.bool false) ?_
  refine KT.nil ?_
  refine SX.seq ?_
  refine SC.seq ?_
  refine SC.cond_false rfl ?_
  refine SC.exit ?_
  refine SX.then_exit ?_
  refine SX.loop_exit ?_
  refine SX.block_hit ?_
  refine SX.endBody [] rfl ?_
  exact RS.nil rfl
  refine KT.pv 7 (.bool true) ?_
  refine KT.nil ?_
  refine SX.seq ?_
  refine SC.seq ?_
  refine SC.cond_true rfl ?_
  refine SC.skip ?_
  refine SX.seq ?_
  refine SC.block ?_
  refine SC.seq ?_
  refine SC.region' ?_
  refine KT.ow rfl (OW.entry (d := 8) (ek := (Value.int .i64)) (evv := vS) _ rfl rfl rfl rfl (fun x8 => ?_))
  refine KT.pv 9 (.int .i64 x8.1) ?_
  refine KT.pv 3 (.int .i64 x8.1) ?_
  refine KT.nil ?_
  refine SX.seq ?_
  refine SC.seq ?_
  refine SC.region' ?_
  refine KT.pv 10 p0_yield ?_
  refine KT.pv 11 (.int .i64 x8.1) ?_
  refine KT.ow rfl (OW.callv (d := 12) (enc := Value.bool) (vs := [(.int .i64 x8.1)]) _ [.tmp 11] _ rfl rfl rfl rfl rfl (fun x12 => ?_))
  refine KT.pv 13 (.bool (!x12)) ?_
  refine KT.nil ?_
  refine SX.seq ?_
  refine SC.cond (b := !x12) rfl ?_ ?_
  refine SC.ret ?_
  refine SX.block_ret ?_
  refine SX.loop_ret ?_
  refine SX.block_ret ?_
  refine SX.ret [] rfl ?_
  exact RS.nil rfl
  refine SC.skip ?_
  refine SX.block ?_
  exact SX.loop_next (.cons rfl (.cons rfl (.nil)))
end Go.Proofs.Ytldmeimebebllaa
namespace Go.Ex
open Go.Proofs
open Go.Mo
open Go.Proofs.Ytldmeimebebllaa
set_option linter.unusedVariables false
set_option linter.constructorNameAsVariable false
set_option linter.unusedSimpArgs false
theorem body87 : ∃ c, Tryz.f87.body = some c := Option.isSome_iff_exists.1 (by kernel_rfl)
theorem keysOkS : KeysOk (cvOf Tryz.prog) := fun a yv Q w hm =>
  enter_of (f := fid_maps_Keys_m_c1) (ags := #[yv, .pointer (some a)]) (m := maps_Keys_m_c1 (cvOf Tryz.prog) yv a) (enc := fun _ : Unit => .tuple #[]) (by simp [Deferred.ofValue, invoke]) (fun Qf' h => maps_Keys_m_c1_sim yv a Qf' w h) Q hm
theorem keysOkN : KeysOkN (cvOf Tryz.prog) := fun a yv Q w hm =>
  enter_of (f := fid_maps_Keys_g_c1) (ags := #[yv, .pointer (some a)]) (m := maps_Keys_g_c1 (cvOf Tryz.prog) yv a) (enc := fun _ : Unit => .tuple #[]) (by simp [Deferred.ofValue, invoke]) (fun Qf' h => maps_Keys_g_c1_sim yv a Qf' w h) Q hm
theorem keysOkB : KeysOkB (cvOf Tryz.prog) := fun a yv Q w hm =>
  enter_of (f := fid_maps_Keys_gbyte__int__gbyte__c1) (ags := #[yv, .pointer (some a)]) (m := maps_Keys_gbyte__int__gbyte__c1 (cvOf Tryz.prog) yv a) (enc := fun _ : Unit => .tuple #[]) (by simp [Deferred.ofValue, invoke]) (fun Qf' h => maps_Keys_gbyte__int__gbyte__c1_sim yv a Qf' w h) Q hm
section
variable {W : Kp} {ξ : Nat → Int} {ρ : Rho} {σ : St} {w : World}
def SpecS (fv : Nat → Value) (p : V → Bool) : Prop := ∀ (g : Fr) (c mb clk N : Nat) (es : Array MapEntry) (f : Int → Option Value), MapOk es.toList clk f → (∀ j v, f j = some v → ∃ v0 ξ ρ, p v0 = true ∧ VR ξ ρ v0 v) →
  (∀ s : List Int, s.Nodup → (∀ y ∈ s, (f y).isSome = true) → s.length ≤ N) → N ≤ 1073741824 → ∀ l : List Int, l.Pairwise (· < ·) → (∀ y, y ∈ l ↔ (f y).isSome = true) →
  wps g (pc c [.map (some mb)] * po mb (.map es clk)) (slices_Sorted_i (cvOf Tryz.prog) (fv c)) fun t => pc c [.map (some mb)] * po mb (.map es clk) * own 1 t (l.map (Value.int .i64))
theorem specS : SpecS keysV valS := fun g c mb clk N es f hm hv hN hN2 l hl hml => slices_Sorted_spec keysOkS hm (fun j v h => by obtain ⟨v0, ξ, ρ, h1, h2⟩ := hv j v h; exact valS_t h1 h2) hN hN2 hl hml
theorem specB : SpecS keysVB valS := fun g c mb clk N es f hm hv hN hN2 l hl hml => slices_Sorted_specB keysOkB hm (fun j v h => by obtain ⟨v0, ξ, ρ, h1, h2⟩ := hv j v h; exact valS_t h1 h2) hN hN2 hl hml
theorem specN : SpecS keysVN valP := fun g c mb clk N es f hm hv hN hN2 l hl hml => slices_Sorted_specN keysOkN hm (fun j v h => by obtain ⟨v0, ξ, ρ, h1, h2⟩ := hv j v h; exact valP_t h1 h2) hN hN2 hl hml
theorem natsV_ok : ∀ (l : List Nat), VRs ξ ρ (natsV l) ((l.map Int.ofNat).map (Value.int .i64))
  | [] => .nil
  | a :: l => .cons (.n a) (natsV_ok l)
theorem sorted1_ok {fv : Nat → Value} {p : V → Bool} (S : SpecS fv p) {i m : Id} {b c : Nat} {r : (V → St → Ans) → Ans} {κ : V → St → Ans} {R : Ending → World → Prop} (hi : ρ i = some (b, c)) (ho : obj i σ = .c [.w (.m m)] 0) (hr : sortedR1 p m σ = some r) (h : r κ = true)
    (hR : Rel Tryz.prog W ξ ρ σ w) (hκ : ∀ v σ' ρ' u w', κ v σ' = true → ρ.le ρ' → Rel Tryz.prog W ξ ρ' σ' w' → VR ξ ρ' v u → R (.returned u) w') : CallsX Tryz.prog 87 #[fv b] w R := by
  have hob := hR.ob i _ hi
  rw [ho] at hob
  generalize e1 : w.heap[(b, c).1]? = x1 at hob
  cases hob with | @c _ us elem hcs hone => ?_
  cases hcs with | @cons _ _ _ _ hm hnil => ?_
  cases hnil
  cases hm with | @m _ mb cm hm => ?_
  simp only at e1
  unfold sortedR1 at hr
  split at hr
  case h_2 => cases hr
  case h_1 es clk hes =>
  split at hr
  case h_2 => cases hr
  case h_1 k0 ks hchk hks =>
  have hob2 := hR.ob m _ hm
  rw [hes] at hob2
  generalize e2 : w.heap[(mb, cm).1]? = x2 at hob2
  cases hob2 with | @m _ ms _ hms => ?_
  simp only at e2
  simp only [Bool.and_eq_true] at hchk
  obtain ⟨⟨hp, hborn⟩, hlen⟩ := hchk
  obtain ⟨i1, i2, i3, i4, i5⟩ := entries hms hks hp hborn
  generalize hl : sortN (k0 :: ks) = l at hr
  simp only at hr
  cases hasc : ascN l with
  | false => rw [hasc] at hr; cases hr
  | true =>
  rw [hasc] at hr
  simp only [Option.some.injEq] at hr
  subst hr
  replace h : (natsC l fun cs n => new (.c cs 1) σ fun j σ => κ (.q j n) σ) = true := h
  rw [natsC_t] at h
  have hperm : l.Perm (k0 :: ks) := hl ▸ sortN_perm _
  have hpw := ascN_t hasc
  have hnd : (k0 :: ks).Nodup := hperm.nodup_iff.1 (hpw.imp fun h => by omega)
  obtain ⟨hM, hkeys⟩ := mapOk_of i1 hnd i3 fun e he => (i4 e he).2
  have hmem : ∀ y, y ∈ l.map Int.ofNat ↔ (fOf ms y).isSome = true := fun y => by
    rw [hkeys y]
    constructor
    · intro h
      obtain ⟨a, ha, rfl⟩ := List.mem_map.1 h
      exact ⟨a, hperm.mem_iff.1 ha, rfl⟩
    · rintro ⟨a, ha, rfl⟩
      exact List.mem_map.2 ⟨a, hperm.mem_iff.2 ha, rfl⟩
  have hlen2 : l.length = es.length := by
    have := congrArg List.length i1
    simp only [List.length_map] at this
    rw [hperm.length_eq, ← this, i5]
  have hbm : b ≠ mb := fun e => by
    subst e
    rw [e1] at e2
    cases e2
  let a : Hp := fun x => if x = b then some (.cells #[.map (some mb)] elem, false) else if x = mb then some (.map ms.toArray clk, false) else none
  let g : Fr := ⟨fun x => if x = b then none else if x = mb then none else (w.heap[x]?).map fun ob => (ob, false), w.os, w.output⟩
  have hok1 : Hp.ok a w := fun x ob r h => by
    simp only [a] at h
    split at h
    · rename_i e; subst e
      simp only [Option.some.injEq, Prod.mk.injEq] at h
      rw [e1, ← h.1]
    · split at h
      · rename_i e; subst e
        simp only [Option.some.injEq, Prod.mk.injEq] at h
        rw [e2, ← h.1]
      · cases h
  have hok2 : Hp.ok g.hp w := fun x ob r h => by
    simp only [g] at h
    split at h
    · cases h
    · split at h
      · cases h
      · simp only [Option.map_eq_some_iff, Prod.mk.injEq] at h
        obtain ⟨ob', h, rfl, _⟩ := h
        exact h
  have hown : Own w a g := ⟨fun x => by
    by_cases h1 : x = b
    · right; left; simp [g, h1]
    · by_cases h2 : x = mb
      · right; left; simp [g, h2]
      · left; simp [a, h1, h2], hok1, hok2, rfl, rfl⟩
  have hpre : (pc b [.map (some mb)] * po mb (.map ms.toArray clk)).p a := by
    refine ⟨fun x => if x = b then some (.cells #[.map (some mb)] elem, false) else none, fun x => if x = mb then some (.map ms.toArray clk, false) else none, fun x => ?_, fun x ob r h => ?_, ⟨elem, by simp⟩, by show _ = _; simp⟩
    · by_cases h1 : x = b
      · right; left; simp [h1, hbm]
      · left; simp [h1]
    · refine ⟨r, ?_, fun h => h⟩
      rw [← h]
      simp only [a, Hp.un]
      by_cases h1 : x = b
      · simp [h1]
      · simp [h1]
  have key := S g b mb clk l.length ms.toArray (fOf ms) hM (fun j v h => by
    obtain ⟨e, he, _, rfl⟩ := (hM.find j v).1 h
    obtain ⟨v0, h1, h2⟩ := i2 e he
    exact ⟨v0, ξ, ρ, h1, h2⟩) (fun s hs hy => by
      have := List.Nodup.length_le_of_subset hs (l₂ := l.map Int.ofNat) fun y hy' => (hmem y).2 (hy y hy')
      simpa using this) (by rw [hlen2]; exact Nat.le_of_ble_eq_true hlen) (l.map Int.ofNat) (by
        rw [List.pairwise_map]
        exact hpw.imp fun h => by simpa using h) hmem
  obtain ⟨c87, hb87⟩ := body87
  refine .inl ⟨enter_text (fn := Tryz.f87) (by kernel_rfl) hb87 (by kernel_rfl), ?_⟩
  refine (slices_Sorted_i_sim (fv b) (fun t w' => R (.returned (vS t)) w') w (key w a _ hown hpre fun t w' a' hown' hq => ?_)).mono fun e w' h => ?_
  · -- what is there now
    obtain ⟨a12, a3, hd, hle, ⟨a1, a2, hd', hle', hc, hmo⟩, hown3⟩ := hq
    obtain ⟨hdis, hok, hokg, hsame⟩ := hown'
    have hne : l ≠ [] := fun e => by
      have := hperm.length_eq
      rw [e] at this
      simp at this
    have in1 : ∀ x ob, a1 x = some (ob, false) → a12 x = some (ob, false) := fun x ob h => by
      obtain ⟨r', h1, h2⟩ := hle' x ob false (Hp.le_un_left a1 a2 x ob false h |>.elim fun r hr => by rw [hr.1, hr.2 rfl])
      rw [h1, h2 rfl]
    have in2 : ∀ x ob, a2 x = some (ob, false) → a12 x = some (ob, false) := fun x ob h => by
      obtain ⟨r, hr, hr2⟩ := Hp.le_un_right hd' x ob false h
      obtain ⟨r', h1, h2⟩ := hle' x ob r hr
      rw [h1, h2 (hr2 rfl)]
    have in3 : ∀ x ob, a12 x = some (ob, false) → a' x = some (ob, false) := fun x ob h => by
      obtain ⟨r', h1, h2⟩ := hle x ob false (Hp.le_un_left a12 a3 x ob false h |>.elim fun r hr => by rw [hr.1, hr.2 rfl])
      rw [h1, h2 rfl]
    have in4 : ∀ x ob, a3 x = some (ob, false) → a' x = some (ob, false) := fun x ob h => by
      obtain ⟨r, hr, hr2⟩ := Hp.le_un_right hd x ob false h
      obtain ⟨r', h1, h2⟩ := hle x ob r hr
      rw [h1, h2 (hr2 rfl)]
    have apart : ∀ x ob ob', a12 x = some (ob, false) → a3 x = some (ob', false) → False := fun x ob ob' h h' => by
      rcases hd x with h1 | h1 | ⟨_, h1, _⟩
      · rw [h] at h1; cases h1
      · rw [h'] at h1; cases h1
      · rw [h] at h1; cases h1
    obtain ⟨el, hc⟩ := hc
    have hmo : a2 mb = some (.map ms.toArray clk, false) := hmo
    obtain ⟨base, len, cap⟩ := t
    cases base with
    | none =>
      obtain ⟨_, _, h3⟩ := hown3
      simp only [List.map_eq_nil_iff] at h3
      exact absurd h3 hne
    | some ad =>
      obtain ⟨rest, h3⟩ := hown3
      have hfact := ent_left _ _ a3 h3
      obtain ⟨el3, hcell⟩ := ent_right _ _ a3 h3
      obtain ⟨had, hlen3, hcap, hlc⟩ := hfact
      simp only [List.length_map, Nat.mul_one] at hlen3 hcap
      simp only at had hlc
      have hnew : w.heap.size ≤ ad.block := by
        rcases Nat.lt_or_ge ad.block w.heap.size with hlt | hge
        · exfalso
          by_cases x1 : ad.block = b
          · rw [x1] at hcell
            exact apart _ _ _ (in1 _ _ hc) hcell
          · by_cases x2 : ad.block = mb
            · rw [x2] at hcell
              exact apart _ _ _ (in2 _ _ hmo) hcell
            · have hg : g.hp ad.block = some (w.heap[ad.block], false) := by simp [g, x1, x2, hlt]
              rcases hdis ad.block with h1 | h1 | ⟨_, h1, h2⟩
              · rw [in4 _ _ hcell] at h1; cases h1
              · rw [hg] at h1; cases h1
              · rw [hg] at h2; cases h2
        · exact hge
      have hold : ∀ (x : Nat) ob, w.heap[x]? = some ob → w'.heap[x]? = some ob ∨ (W.kept x = none ∧ ∃ cs e e', ob = .cells cs e ∧ w'.heap[x]? = some (.cells cs e')) := fun x ob hx => by
        by_cases x1 : x = b
        · subst x1
          right
          rw [e1] at hx
          cases hx
          exact ⟨(hR.dom i _ hi).2.1, _, elem, el, rfl, hok _ _ _ (in3 _ _ (in1 _ _ hc))⟩
        · left
          by_cases x2 : x = mb
          · subst x2
            rw [e2] at hx
            cases hx
            exact hok _ _ _ (in3 _ _ (in2 _ _ hmo))
          · exact hokg x ob false (by simp [g, x1, x2, hx])
      obtain ⟨σ', h1, h2, h3⟩ := Rel.add (c := cap) (b := ad.block) hR hold hsame.os hsame.out hnew (hok _ _ _ (in4 _ _ hcell)) (.e (natsV_ok l) (fun u hu => by
        obtain ⟨z, _, rfl⟩ := List.mem_map.1 hu
        rfl) (by simpa using hcap)) h
      refine hκ _ _ _ _ _ h1 h2 h3 ?_
      rw [had]
      simp only [vS]
      rw [← hlen3]
      exact .q (Rho.put_self _ _) (by omega)
  · cases e with
    | returned v => obtain ⟨t, rfl, h⟩ := h; exact h
    | panicked c => exact h.elim
    | outgrown => exact h.elim
theorem sorted_ok {v : V} {u : Value} {r : (V → St → Ans) → Ans} {κ : V → St → Ans} {R : Ending → World → Prop} (hr : sortedR v σ = some r) (h : r κ = true)
    (hR : Rel Tryz.prog W ξ ρ σ w) (hv : VR ξ ρ v u) (hκ : ∀ v σ' ρ' u w', κ v σ' = true → ρ.le ρ' → Rel Tryz.prog W ξ ρ' σ' w' → VR ξ ρ' v u → R (.returned u) w') : CallsX Tryz.prog 87 #[u] w R := by
  unfold sortedR at hr
  split at hr
  case h_2 => cases hr
  case h_1 k i =>
  split at hr
  case h_2 => cases hr
  case h_1 m ho =>
  cases hv with | @f _ _ _ us vs h1 h2 => ?_
  cases h1
  cases h2 with | @cons _ _ _ _ h2 h3 => ?_
  cases h3
  cases h2 with | @p _ _ b c hi => ?_
  cases h257 : Nat.beq k 257 with
  | true =>
    rw [h257] at hr
    have := Nat.eq_of_beq_eq_true h257
    subst this
    exact sorted1_ok specN hi ho hr h hR hκ
  | false =>
    rw [h257] at hr
    cases h2 : Nat.beq k 162 with
    | true =>
      rw [h2] at hr
      have := Nat.eq_of_beq_eq_true h2
      subst this
      exact sorted1_ok specS hi ho hr h hR hκ
    | false =>
      rw [h2] at hr
      cases h3 : Nat.beq k 258 with
      | true =>
        rw [h3] at hr
        have := Nat.eq_of_beq_eq_true h3
        subst this
        exact sorted1_ok specB hi ho hr h hR hκ
      | false => rw [h3] at hr; cases hr
end
end Go.Ex
namespace Go.Mo
open Go.RowKit
set_option linter.unusedVariables false
structure Kept (W w' : World) : Prop where
  frame : W.keptBut w' (fun _ => False)
  block : ∀ (i : Nat) ob, W.heap[i]? = some ob → w'.heap[i]? = some ob
theorem Kept.same {W w' : World} (h : Kept W w') {b : Nat} (hb : b < W.heap.size) : w'.heap[b]? = W.heap[b]? :=
  (h.block b _ (Array.getElem?_eq_getElem hb)).trans (Array.getElem?_eq_getElem hb).symm
open Go.ChangeShapes Go.WideShapes in
theorem post_of_kept {H : Type} {enc : TypeId × Value → H} {P : Program} {f : Func} {s : ChangeSpec} {apart fresh handsOn again : Bool} {W W' : World} {args : Array Value} {v : Value} {ds gs : List (DataW H)} {before pa pv : List MemPlace}
    (hW : DataW.Whole enc P f.params.toList s.vars apart W args.toList ds gs before)
    (hres : ∀ (b : Nat) (sp : Nat → Bool) (hd : Bool), DataW.TrodAll enc P W' b sp hd f.resultTypes.toList (v.resultList f.resultTypes.size) (s.fn H (ds ++ gs)).results [])
    (hargs : ∀ sp : Nat → Bool, (∀ p ∈ before, sp p.block = true) → DataW.TrodAll enc P W' 0 sp true f.params.toList args.toList (s.fn H (ds ++ gs)).args pa)
    (hvars : ∀ sp : Nat → Bool, (∀ p ∈ before, sp p.block = true) → DataW.TrodVars enc P W' sp s.vars (s.fn H (ds ++ gs)).vars pv)
    (hps : before = pa ++ pv) (hk : Kept W W')
    (hok : ∀ (j : Nat) (t : TypeId) (r : Value), f.resultTypes[j]? = some t → (v.resultList f.resultTypes.size)[j]? = some r → Value.okWide P W' .any 0 t r) :
    s.post enc P f apart fresh handsOn again W args v W' := by
  have hold : ∀ p ∈ before, (fun b => decide (b < W.heap.size)) p.block = true := fun p hp => by simpa using hW.lt p hp
  refine ⟨ds, gs, before, [], pa, pv, hW, hres _ _ _, hargs _ hold, hvars _ hold, World.keptBut_mono (fun p hp => hp.elim) hk.frame, fun _ => ?_⟩
  have hlt := hW.lt
  obtain ⟨_, _, _, _, _, hz, hn⟩ := hW
  refine ⟨hok, _, _, ([] ++ pa) ++ pv, ⟨[] ++ pa, pv, trodAll_append (hargs _ (fun _ _ => rfl)) (hres _ _ _), hvars _ (fun _ _ => rfl), rfl, ?_, ?_⟩, ?_⟩
  · intro b off hp
    have hp' : MemPlace.cell b off ∈ before := by rw [hps]; simpa using hp
    have hb : b < W.heap.size := hlt _ hp'
    have := hz b off hp'
    unfold World.frozen? at this ⊢
    rw [show W'.heap[(⟨b, off, none⟩ : Addr).block]? = W.heap[(⟨b, off, none⟩ : Addr).block]? from hk.same hb]
    exact this
  · intro ha
    have := hn ha
    rw [hps] at this
    simpa using this
  · intro p hp _
    rw [hps]
    simpa using hp
theorem trodAll_carry {H : Type} {enc : TypeId × Value → H} {P : Program} {w w' : World} {base : Nat} {spare : Nat → Bool} {held : Bool} : ∀ {ts : List TypeId} {vs : List Value} {ds : List (DataW H)} {ps : List MemPlace},
    DataW.TrodAll enc P w base spare held ts vs ds ps → (∀ p ∈ ps, w.sameAt w' p) → DataW.TrodAll enc P w' base spare held ts vs ds ps
  | [], [], [], _, h, _ => h
  | _ :: _, _ :: _, _ :: _, _, ⟨p, q, ⟨n, h1⟩, h2, e⟩, hs => ⟨p, q, ⟨n, DataW.trod_carry n _ _ _ h1 fun x hx => hs x (by rw [e]; exact List.mem_append_left _ hx)⟩,
      trodAll_carry h2 (fun x hx => hs x (by rw [e]; exact List.mem_append_right _ hx)), e⟩
theorem args_again {H : Type} {enc : TypeId × Value → H} {P : Program} {W W' : World} (hg : Kept W W') (kids : Kids P (· < P.types.size)) (fulls : ∀ t e, t < P.types.size → P.underlying t = some (.slice e) → 0 < P.cellsOf e)
    {ts : List TypeId} (hts : ∀ t ∈ ts, t < P.types.size) {vs : List Value} {ds : List (DataW H)} {ps : List MemPlace} (h : DataW.TrodAll enc P W 0 (fun _ => true) true ts vs ds ps) {sp : Nat → Bool} (hs : ∀ p ∈ ps, sp p.block = true) (hlt : ∀ p ∈ ps, p.block < W.heap.size) :
    DataW.TrodAll enc P W' 0 sp true ts vs ds ps :=
  trodAll_carry (DataW.TrodAll.respare kids fulls hts h hs) fun p hp => by
    have hb := hlt p hp
    have he := hg.same hb
    cases p with
    | cell b o => simp only [World.sameAt, World.cell?]; rw [show W'.heap[b]? = W.heap[b]? from he]
    | map b => exact he
end Go.Mo
