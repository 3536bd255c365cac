/-
  loops and maps in the logic.
-/
import Derived.Test.YtldmeimebebllaaMoSL2
namespace Go.Mo
set_option linter.unusedVariables false

/-! ## Loops whose measure is not told by their state -/
theorem least {p : Nat → Prop} (h : ∃ n, p n) : ∃ n, p n ∧ ∀ m, p m → n ≤ m := by
  obtain ⟨n, hn⟩ := h
  induction n using Nat.strongRecOn with
  | _ n ih =>
    by_cases hx : ∃ m, m < n ∧ p m
    · obtain ⟨m, hm, hp⟩ := hx
      exact ih m hm hp
    · exact ⟨n, hn, fun m hm => Nat.le_of_not_lt fun hlt => hx ⟨m, hlt, hm⟩⟩
section
variable {α β σ γ : Type} {g : Fr} {H H' : HP} {Q : α → HP}
open Classical in
theorem wps_loopg {body : σ → M (σ ⊕ α)} {s : σ} (I : γ → σ → HP) (μ : γ → σ → Nat) (c : γ) (h0 : Ent H (I c s))
    (h : ∀ c s, wps g (I c s) (body s) (sumPost (fun s' => ex fun c' => pr (μ c' s' < μ c s) * I c' s') Q)) : wps g H (loopM body s) Q := fun w a Qf ho ha hq => by
  let pp : σ → World → Nat → Prop := fun s w n => ∃ c, μ c s = n ∧ Iv g (I c s) w
  let mu : σ → World → Nat := fun s w => if h : ∃ n, pp s w n then (least h).choose else 0
  have hmu : ∀ s w c, Iv g (I c s) w → mu s w ≤ μ c s ∧ pp s w (mu s w) := by
    intro s w c hc
    have hex : ∃ n, pp s w n := ⟨μ c s, c, rfl, hc⟩
    have : mu s w = (least hex).choose := dif_pos hex
    rw [this]
    exact ⟨(least hex).choose_spec.2 _ ⟨c, rfl, hc⟩, (least hex).choose_spec.1⟩
  refine ⟨fun s w => ∃ c, Iv g (I c s) w, mu, ⟨c, a, ho, h0 a ha⟩, fun s w ⟨c, hc⟩ => ?_⟩
  obtain ⟨c1, h1, a1, ho1, hi1⟩ := (hmu s w c hc).2
  refine h c1 s w a1 _ ho1 hi1 fun r w' b ho' hb => ?_
  cases r with
  | inl s' =>
    obtain ⟨c', hb⟩ := hb
    have hlt : μ c' s' < μ c1 s := (ent_left _ _) b hb
    have hiv : Iv g (I c' s') w' := ⟨b, ho', (ent_right _ _) b hb⟩
    exact ⟨⟨c', hiv⟩, by have := (hmu s' w' c' hiv).1; omega⟩
  | inr x => exact hq x w' b ho' hb
end

/-! ## Maps with int keys -/
/-- the entries of a map, by key; their stamps ascend and stay below the clock -/
structure MapOk (es : List MapEntry) (clock : Nat) (f : Int → Option Value) : Prop where
  keys : intKeys es
  find : ∀ k v, f k = some v ↔ ∃ e ∈ es, keyIs k e = true ∧ e.val = v
  born : (es.map (·.born)).Pairwise (· < ·)
  below : ∀ e ∈ es, e.born < clock
  once : ∀ (i j : Nat) e e' k, es[i]? = some e → es[j]? = some e' → keyIs k e = true → keyIs k e' = true → i = j
theorem MapOk.mfind {es : List MapEntry} {clock : Nat} {f : Int → Option Value} (h : MapOk es clock f) (k : Int) : mfind es k = f k := by
  unfold Mo.mfind
  cases hf : es.find? (keyIs k) with
  | some e => exact ((h.find k e.val).2 ⟨e, List.mem_of_find?_eq_some hf, List.find?_some hf, rfl⟩).symm
  | none =>
    rw [List.find?_eq_none] at hf
    cases hk : f k with
    | none => rfl
    | some v =>
      obtain ⟨e, he, h1, _⟩ := (h.find k v).1 hk
      exact absurd h1 (hf e he)
def imap (m : Nat) (f : Int → Option Value) : HP := ex fun es : Array MapEntry => ex fun clock : Nat => pr (MapOk es.toList clock f) * po m (.map es clock)
theorem imap_new (m : Nat) : Ent (po m (.map #[] 0)) (imap m fun _ => none) :=
  ent_ex #[] (ent_ex 0 (ent_prr ⟨fun e h => by simp at h, fun k v => by simp, by simp, fun e h => by simp at h, fun i j e e' k h => by simp at h⟩ (Ent.refl _)))
theorem own_po {w : World} {a : Hp} {g : Fr} {H : HP} {b : Nat} {ob : Obj} (ho : Own w a g) (ha : (H * po b ob).p a) : w.heap[b]? = some ob := by
  obtain ⟨a2, a1, hd, hl, h2, h1⟩ := ha
  obtain ⟨r, h3, _⟩ := hl b ob false (by rw [Hp.un_comm hd]; simp [Hp.un]; left; exact h1)
  exact ho.2.1 b _ _ h3
theorem putObj_heap {w : World} {b : Nat} {ob ob' : Obj} (hb : w.heap[b]? = some ob) (y : Nat) : (w.putObj b ob').heap[y]? = if y = b then some ob' else w.heap[y]? := by
  have hlt := (Array.getElem?_eq_some_iff.1 hb).1
  simp only [World.putObj]
  rw [Array.getElem?_setIfInBounds]
  by_cases hy : y = b
  · subst hy; simp [hlt]
  · rw [if_neg (fun e => hy e.symm), if_neg hy]
theorem own_put {w : World} {a : Hp} {g : Fr} {H : HP} {b : Nat} {ob : Obj} (ob' : Obj) (hsf : Obj.soft ob') (ho : Own w a g) (ha : (H * po b ob).p a) : ∃ a', Own (w.putObj b ob') a' g ∧ (H * po b ob').p a' := by
  have hb := own_po ho ha
  obtain ⟨a2, a1, hd, hl, h2, h1⟩ := ha
  have := own_set ho (Hp.dis_symm hd) (by rw [← Hp.un_comm hd]; exact hl) h1 _ (putObj_heap (ob' := ob') hb) ⟨rfl, rfl⟩ hsf
  exact ⟨_, this.1, a2, _, this.2, Hp.le_refl _, h2, by simp [po]⟩
section
variable {α β σ γ κ : Type} {g : Fr} {H H' : HP} {Q : α → HP}
theorem imap_open {A : HP} {m : Nat} {f : Int → Option Value} {a : Hp} (ha : (A * imap m f).p a) : ∃ es clock, MapOk es.toList clock f ∧ (A * po m (.map es clock)).p a := by
  unfold imap at ha
  rw [star_ex] at ha
  obtain ⟨es, ha⟩ := ha
  simp only at ha
  rw [star_ex] at ha
  obtain ⟨clock, ha⟩ := ha
  simp only at ha
  rw [star_left_comm] at ha
  exact ⟨es, clock, ent_left _ _ a ha, ent_right _ _ a ha⟩
theorem imap_close {A : HP} {m clock : Nat} {es : Array MapEntry} {f : Int → Option Value} {a : Hp} (h : MapOk es.toList clock f) (ha : (A * po m (.map es clock)).p a) : (A * imap m f).p a := by
  refine Ent.starr ?_ a ha
  exact ent_ex es (ent_ex clock (ent_prr h (Ent.refl _)))
theorem wps_look {enc : β → Value} {z : β} {k : β × Bool → M α} {m : Nat} {j : Int} {f : Int → Option Value} (c : Option β) (hH : H = H' * imap m f) (hc : f j = c.map enc) (h : wps g H (k (match c with | some y => (y, true) | none => (z, false))) Q) :
    wps g H (bindM (lookM enc z (some m) j) k) Q := fun w a Qf ho ha hq => by
  have ha0 := ha
  rw [hH] at ha
  obtain ⟨es, clock, hm, ha⟩ := imap_open ha
  refine ⟨es, clock, own_po ho ha, hm.keys, ?_⟩
  cases c with
  | none => exact .inr ⟨by rw [hm.mfind, hc]; rfl, h w a Qf ho ha0 hq⟩
  | some y => exact .inl ⟨y, by rw [hm.mfind, hc]; rfl, h w a Qf ho ha0 hq⟩
theorem keyIs_int {e : MapEntry} {n k : Int} (h : e.key = .int .i64 n) : keyIs k e = (k == n) := by simp [keyIs, h]
theorem mapPut_ok {es : Array MapEntry} {clock : Nat} {f : Int → Option Value} (h : MapOk es.toList clock f) (k : Int) (v : Value) :
    ∃ es' clock', mapPut es clock k v = .map es' clock' ∧ MapOk es'.toList clock' (fun j => if j = k then some v else f j) := by
  unfold mapPut
  cases hf : es.toList.findIdx? (keyIs k) with
  | none =>
    have hno : ∀ e ∈ es.toList, keyIs k e = false := by simpa [List.findIdx?_eq_none_iff] using hf
    refine ⟨_, _, rfl, ?_, ?_, ?_, ?_, ?_⟩
    · intro e he
      simp only [Array.toList_push, List.mem_append, List.mem_singleton] at he
      rcases he with he | rfl
      · exact h.keys e he
      · exact ⟨k, rfl⟩
    · intro j u
      simp only [Array.toList_push, List.mem_append, List.mem_singleton]
      by_cases hj : j = k
      · subst hj
        rw [if_pos rfl]
        constructor
        · intro hu; cases hu
          exact ⟨_, .inr rfl, by simp [keyIs], rfl⟩
        · rintro ⟨e, he | rfl, h1, h2⟩
          · rw [hno e he] at h1; cases h1
          · rw [← h2]
      · rw [if_neg hj, h.find]
        constructor
        · rintro ⟨e, he, h1⟩; exact ⟨e, .inl he, h1⟩
        · rintro ⟨e, he | rfl, h1, h2⟩
          · exact ⟨e, he, h1, h2⟩
          · simp [keyIs, hj] at h1
    · simp only [Array.toList_push, List.map_append, List.map_cons, List.map_nil]
      rw [List.pairwise_append]
      refine ⟨h.born, by simp, ?_⟩
      intro x hx y hy
      simp only [List.mem_map] at hx
      obtain ⟨e, he, rfl⟩ := hx
      simp only [List.mem_singleton] at hy
      subst hy
      exact h.below e he
    · intro e he
      simp only [Array.toList_push, List.mem_append, List.mem_singleton] at he
      rcases he with he | rfl
      · have := h.below e he; omega
      · simp
    · intro i j e e' q hi hj hq hq'
      simp only [Array.toList_push] at hi hj
      have hkk : ∀ (i : Nat) (e : MapEntry), (es.toList ++ [{ key := .int .i64 k, val := v, born := clock }])[i]? = some e → keyIs q e = true → (es.toList[i]? = some e ∧ q ≠ k) ∨ (i = es.toList.length ∧ q = k) := by
        intro i' e0 hi0 hq0
        by_cases hlt : i' < es.toList.length
        · rw [List.getElem?_append_left hlt] at hi0
          left
          refine ⟨hi0, fun hqk => ?_⟩
          subst hqk
          have := hno _ (List.mem_of_getElem? hi0)
          rw [this] at hq0; cases hq0
        · have : i' = es.toList.length := by
            have := (List.getElem?_eq_some_iff.1 hi0).1
            simp only [List.length_append, List.length_singleton] at this
            omega
          right
          refine ⟨this, ?_⟩
          subst this
          simp at hi0
          subst hi0
          simpa [keyIs] using hq0
      rcases hkk i e hi hq with ⟨h1, h2⟩ | ⟨h1, h2⟩ <;> rcases hkk j e' hj hq' with ⟨h3, h4⟩ | ⟨h3, h4⟩
      · exact h.once i j e e' q h1 h3 hq hq'
      · exact absurd h4 h2
      · exact absurd h2 h4
      · omega
  | some i =>
    rw [List.findIdx?_eq_some_iff_getElem] at hf
    obtain ⟨hi, hki, hmin⟩ := hf
    let F : MapEntry → MapEntry := fun e => { e with key := .int .i64 k, val := v }
    have hlist : (es.modify i F).toList = es.toList.modify i F := by simp
    have hget : ∀ j, (es.toList.modify i F)[j]? = if j = i then some (F es.toList[i]) else es.toList[j]? := by
      intro j
      rw [List.getElem?_modify]
      by_cases hj : j = i
      · subst hj
        rw [if_pos rfl, List.getElem?_eq_getElem hi]
        simp
      · rw [if_neg hj]
        have hj' : ¬ i = j := fun e => hj (e.symm)
        simp [hj']
    have hkF : ∀ q, keyIs q (F es.toList[i]) = (q == k) := fun q => rfl
    have hkey : ∀ q, keyIs q es.toList[i] = (q == k) := by
      intro q
      obtain ⟨n, hn⟩ := h.keys es.toList[i] (List.getElem_mem hi)
      rw [keyIs_int hn] at hki ⊢
      have : k = n := by simpa using hki
      rw [this]
    refine ⟨_, _, rfl, ?_, ?_, ?_, ?_, ?_⟩
    · intro e he
      rw [hlist] at he
      obtain ⟨j, hj⟩ := List.mem_iff_getElem?.1 he
      rw [hget] at hj
      split at hj
      · cases hj; exact ⟨k, rfl⟩
      · exact h.keys e (List.mem_of_getElem? hj)
    · intro q u
      rw [hlist]
      have hmem : ∀ e, e ∈ es.toList.modify i F ↔ ∃ j, (if j = i then some (F es.toList[i]) else es.toList[j]?) = some e := by
        intro e
        rw [List.mem_iff_getElem?]
        constructor <;> (rintro ⟨j, hj⟩; refine ⟨j, ?_⟩)
        · rw [← hget]; exact hj
        · rw [hget]; exact hj
      by_cases hq : q = k
      · subst hq
        rw [if_pos rfl]
        constructor
        · intro hu; cases hu
          exact ⟨F es.toList[i], (hmem _).2 ⟨i, by rw [if_pos rfl]⟩, by rw [hkF]; simp, rfl⟩
        · rintro ⟨e, he, h1, h2⟩
          obtain ⟨j, hj⟩ := (hmem e).1 he
          split at hj
          · cases hj; rw [← h2]
          · rename_i hji
            exact absurd (h.once j i e es.toList[i] q hj (List.getElem?_eq_getElem hi) h1 hki) hji
      · rw [if_neg hq, h.find]
        constructor
        · rintro ⟨e, he, h1, h2⟩
          obtain ⟨j, hj⟩ := List.mem_iff_getElem?.1 he
          refine ⟨e, (hmem e).2 ⟨j, ?_⟩, h1, h2⟩
          rw [if_neg]
          · exact hj
          · intro hji
            subst hji
            rw [List.getElem?_eq_getElem hi] at hj
            cases hj
            rw [hkey] at h1
            exact hq (by simpa using h1)
        · rintro ⟨e, he, h1, h2⟩
          obtain ⟨j, hj⟩ := (hmem e).1 he
          split at hj
          · cases hj
            rw [hkF] at h1
            exact absurd (by simpa using h1) hq
          · exact ⟨e, List.mem_of_getElem? hj, h1, h2⟩
    · rw [hlist]
      have : (es.toList.modify i F).map (·.born) = es.toList.map (·.born) := by
        apply List.ext_getElem?
        intro j
        rw [List.getElem?_map, List.getElem?_map, hget]
        split
        · rename_i hj; subst hj; rw [List.getElem?_eq_getElem hi]; rfl
        · rfl
      rw [this]; exact h.born
    · intro e he
      rw [hlist] at he
      obtain ⟨j, hj⟩ := List.mem_iff_getElem?.1 he
      rw [hget] at hj
      split at hj
      · cases hj; exact h.below es.toList[i] (List.getElem_mem hi)
      · exact h.below e (List.mem_of_getElem? hj)
    · intro a b e e' q ha hb hqa hqb
      rw [hlist] at ha hb
      rw [hget] at ha hb
      have hfix : ∀ (a : Nat) (e : MapEntry), (if a = i then some (F es.toList[i]) else es.toList[a]?) = some e → keyIs q e = true → ∃ e0, es.toList[a]? = some e0 ∧ keyIs q e0 = true := by
        intro a e ha hqa
        split at ha
        · rename_i hai; subst hai
          cases ha
          exact ⟨es.toList[a], List.getElem?_eq_getElem hi, by rw [hkey]; rw [hkF] at hqa; exact hqa⟩
        · exact ⟨e, ha, hqa⟩
      obtain ⟨e1, h1, h2⟩ := hfix a e ha hqa
      obtain ⟨e2, h3, h4⟩ := hfix b e' hb hqb
      exact h.once a b e1 e2 q h1 h3 h2 h4
theorem wps_upd {k : Unit → M α} {m : Nat} {j : Int} {v : Value} {f : Int → Option Value} (hH : H = H' * imap m f) (h : wps g (H' * imap m (fun i => if i = j then some v else f i)) (k ()) Q) :
    wps g H (bindM (updM (some m) j v) k) Q := fun w a Qf ho ha hq => by
  rw [hH] at ha
  obtain ⟨es, clock, hm, ha⟩ := imap_open ha
  refine ⟨m, es, clock, rfl, own_po ho ha, hm.keys, ?_⟩
  obtain ⟨es', clock', he, hok⟩ := mapPut_ok hm j v
  rw [he]
  obtain ⟨a', ho', ha'⟩ := own_put (.map es' clock') (fun _ _ _ h => by cases h) ho ha
  exact h _ a' Qf ho' (imap_close hok ha') hq
theorem wps_clear {k : Unit → M α} {m : Nat} {f : Int → Option Value} (hH : H = H' * imap m f) (h : wps g (H' * imap m (fun _ => none)) (k ()) Q) :
    wps g H (bindM (clearM (some m)) k) Q := fun w a Qf ho ha hq => by
  rw [hH] at ha
  obtain ⟨es, clock, hm, ha⟩ := imap_open ha
  refine ⟨es, clock, own_po ho ha, ?_⟩
  obtain ⟨a', ho', ha'⟩ := own_put (.map #[] clock) (fun _ _ _ h => by cases h) ho ha
  exact h _ a' Qf ho' (imap_close ⟨fun e h => by simp at h, fun k v => by simp, by simp, fun e h => by simp at h, fun i j e e' k h => by simp at h⟩ ha') hq
end
end Go.Mo
