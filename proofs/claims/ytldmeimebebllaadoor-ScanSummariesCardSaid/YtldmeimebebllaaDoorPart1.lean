/-
  A part of the proof: predicate transformers over the model, and a separation logic over them; what functions of the program do.
-/
import Derived.Test.YtldmeimebebllaaDoorPart0
import Derived.Laws.Strings
import Derived.ChangeReads
import Derived.ReadAgain
import Derived.Deep.Frames
import Derived.RowKit3
import Derived.ChangeSame
import Derived.ChangeSlices
import Derived.SizedLaws
import Derived.Deep.Slices
set_option linter.unusedSimpArgs false
namespace Go.Mo
set_option linter.unusedVariables false
set_option linter.unusedSimpArgs false
structure MapOk2 (es : List MapEntry) (clock : Nat) (f : Int × Int → Option Value) : Prop where
  keys : pairKeys es
  find : ∀ k v, f k = some v ↔ ∃ e ∈ es, keyIs2 k e = true ∧ e.val = v
  born : (es.map (·.born)).Pairwise (· < ·)
  below : ∀ e ∈ es, e.born < clock
  once : ∀ (i j : Nat) e e' k, es[i]? = some e → es[j]? = some e' → keyIs2 k e = true → keyIs2 k e' = true → i = j
def pmap (m : Nat) (f : Int × Int → Option Value) : HP := ex fun es : Array MapEntry => ex fun clock : Nat => pr (MapOk2 es.toList clock f) * po m (.map es clock)
theorem pmap_new (m : Nat) : Ent (po m (.map #[] 0)) (pmap m fun _ => none) :=
  ent_ex #[] (ent_ex 0 (ent_prr ⟨fun e h => by simp at h, fun k v => by simp, by simp, fun e h => by simp at h, fun i j e e' k h => by simp at h⟩ (Ent.refl _)))
def mapPut2 (es : Array MapEntry) (clock : Nat) (k : Int × Int) (v : Value) : Obj := match es.toList.findIdx? (keyIs2 k) with
  | some i => .map (es.modify i fun e => { e with key := key2 k, val := v }) clock
  | none => .map (es.push { key := key2 k, val := v, born := clock }) (clock + 1)
section
variable {α β σ γ κ : Type} {g : Fr} {H H' : HP} {Q : α → HP}
theorem pmap_open {A : HP} {m : Nat} {f : Int × Int → Option Value} {a : Hp} (ha : (A * pmap m f).p a) : ∃ es clock, MapOk2 es.toList clock f ∧ (A * po m (.map es clock)).p a := by
  unfold pmap at ha
  rw [star_ex] at ha
  obtain ⟨es, ha⟩ := ha
  simp only at ha
  rw [star_ex] at ha
  obtain ⟨clock, ha⟩ := ha
  simp only at ha
  rw [star_left_comm] at ha
  exact ⟨es, clock, ent_left _ _ a ha, ent_right _ _ a ha⟩
theorem pmap_close {A : HP} {m clock : Nat} {es : Array MapEntry} {f : Int × Int → Option Value} {a : Hp} (h : MapOk2 es.toList clock f) (ha : (A * po m (.map es clock)).p a) : (A * pmap m f).p a := by
  refine Ent.starr ?_ a ha
  exact ent_ex es (ent_ex clock (ent_prr h (Ent.refl _)))
theorem mapPut2_ok {es : Array MapEntry} {clock : Nat} {f : Int × Int → Option Value} (h : MapOk2 es.toList clock f) (k : Int × Int) (v : Value) :
    ∃ es' clock', mapPut2 es clock k v = .map es' clock' ∧ MapOk2 es'.toList clock' (fun j => if j = k then some v else f j) := by
  unfold mapPut2
  cases hf : es.toList.findIdx? (keyIs2 k) with
  | none =>
    have hno : ∀ e ∈ es.toList, keyIs2 k e = false := by simpa [List.findIdx?_eq_none_iff] using hf
    refine ⟨_, _, rfl, ?_, ?_, ?_, ?_, ?_⟩
    · intro e he
      simp only [Array.toList_push, List.mem_append, List.mem_singleton] at he
      rcases he with he | rfl
      · exact h.keys e he
      · exact ⟨k, rfl⟩
    · intro j u
      simp only [Array.toList_push, List.mem_append, List.mem_singleton]
      by_cases hj : j = k
      · subst hj
        rw [if_pos rfl]
        constructor
        · intro hu; cases hu
          exact ⟨_, .inr rfl, by simp [keyIs2, pairOf_key2], rfl⟩
        · rintro ⟨e, he | rfl, h1, h2⟩
          · rw [hno e he] at h1; cases h1
          · rw [← h2]
      · rw [if_neg hj, h.find]
        constructor
        · rintro ⟨e, he, h1⟩; exact ⟨e, .inl he, h1⟩
        · rintro ⟨e, he | rfl, h1, h2⟩
          · exact ⟨e, he, h1, h2⟩
          · simp [keyIs2, pairOf_key2, hj] at h1
    · simp only [Array.toList_push, List.map_append, List.map_cons, List.map_nil]
      rw [List.pairwise_append]
      refine ⟨h.born, by simp, ?_⟩
      intro x hx y hy
      simp only [List.mem_map] at hx
      obtain ⟨e, he, rfl⟩ := hx
      simp only [List.mem_singleton] at hy
      subst hy
      exact h.below e he
    · intro e he
      simp only [Array.toList_push, List.mem_append, List.mem_singleton] at he
      rcases he with he | rfl
      · have := h.below e he; omega
      · simp
    · intro i j e e' q hi hj hq hq'
      simp only [Array.toList_push] at hi hj
      have hkk : ∀ (i : Nat) (e : MapEntry), (es.toList ++ [{ key := key2 k, val := v, born := clock }])[i]? = some e → keyIs2 q e = true → (es.toList[i]? = some e ∧ q ≠ k) ∨ (i = es.toList.length ∧ q = k) := by
        intro i' e0 hi0 hq0
        by_cases hlt : i' < es.toList.length
        · rw [List.getElem?_append_left hlt] at hi0
          left
          refine ⟨hi0, fun hqk => ?_⟩
          subst hqk
          have := hno _ (List.mem_of_getElem? hi0)
          rw [this] at hq0; cases hq0
        · have : i' = es.toList.length := by
            have := (List.getElem?_eq_some_iff.1 hi0).1
            simp only [List.length_append, List.length_singleton] at this
            omega
          right
          refine ⟨this, ?_⟩
          subst this
          simp at hi0
          subst hi0
          simpa [keyIs2, pairOf_key2] using hq0
      rcases hkk i e hi hq with ⟨h1, h2⟩ | ⟨h1, h2⟩ <;> rcases hkk j e' hj hq' with ⟨h3, h4⟩ | ⟨h3, h4⟩
      · exact h.once i j e e' q h1 h3 hq hq'
      · exact absurd h4 h2
      · exact absurd h2 h4
      · omega
  | some i =>
    rw [List.findIdx?_eq_some_iff_getElem] at hf
    obtain ⟨hi, hki, hmin⟩ := hf
    let F : MapEntry → MapEntry := fun e => { e with key := key2 k, val := v }
    have hlist : (es.modify i F).toList = es.toList.modify i F := by simp
    have hget : ∀ j, (es.toList.modify i F)[j]? = if j = i then some (F es.toList[i]) else es.toList[j]? := by
      intro j
      rw [List.getElem?_modify]
      by_cases hj : j = i
      · subst hj
        rw [if_pos rfl, List.getElem?_eq_getElem hi]
        simp
      · rw [if_neg hj]
        have hj' : ¬ i = j := fun e => hj (e.symm)
        simp [hj']
    have hkF : ∀ q, keyIs2 q (F es.toList[i]) = (q == k) := fun q => rfl
    have hkey : ∀ q, keyIs2 q es.toList[i] = (q == k) := by
      intro q
      obtain ⟨n, hn⟩ := h.keys es.toList[i] (List.getElem_mem hi)
      rw [keyIs2_pair hn] at hki ⊢
      have : k = n := by simpa using hki
      rw [this]
    refine ⟨_, _, rfl, ?_, ?_, ?_, ?_, ?_⟩
    · intro e he
      rw [hlist] at he
      obtain ⟨j, hj⟩ := List.mem_iff_getElem?.1 he
      rw [hget] at hj
      split at hj
      · cases hj; exact ⟨k, rfl⟩
      · exact h.keys e (List.mem_of_getElem? hj)
    · intro q u
      rw [hlist]
      have hmem : ∀ e, e ∈ es.toList.modify i F ↔ ∃ j, (if j = i then some (F es.toList[i]) else es.toList[j]?) = some e := by
        intro e
        rw [List.mem_iff_getElem?]
        constructor <;> (rintro ⟨j, hj⟩; refine ⟨j, ?_⟩)
        · rw [← hget]; exact hj
        · rw [hget]; exact hj
      by_cases hq : q = k
      · subst hq
        rw [if_pos rfl]
        constructor
        · intro hu; cases hu
          exact ⟨F es.toList[i], (hmem _).2 ⟨i, by rw [if_pos rfl]⟩, by rw [hkF]; simp, rfl⟩
        · rintro ⟨e, he, h1, h2⟩
          obtain ⟨j, hj⟩ := (hmem e).1 he
          split at hj
          · cases hj; rw [← h2]
          · rename_i hji
            exact absurd (h.once j i e es.toList[i] q hj (List.getElem?_eq_getElem hi) h1 hki) hji
      · rw [if_neg hq, h.find]
        constructor
        · rintro ⟨e, he, h1, h2⟩
          obtain ⟨j, hj⟩ := List.mem_iff_getElem?.1 he
          refine ⟨e, (hmem e).2 ⟨j, ?_⟩, h1, h2⟩
          rw [if_neg]
          · exact hj
          · intro hji
            subst hji
            rw [List.getElem?_eq_getElem hi] at hj
            cases hj
            rw [hkey] at h1
            exact hq (by simpa using h1)
        · rintro ⟨e, he, h1, h2⟩
          obtain ⟨j, hj⟩ := (hmem e).1 he
          split at hj
          · cases hj
            rw [hkF] at h1
            exact absurd (by simpa using h1) hq
          · exact ⟨e, List.mem_of_getElem? hj, h1, h2⟩
    · rw [hlist]
      have : (es.toList.modify i F).map (·.born) = es.toList.map (·.born) := by
        apply List.ext_getElem?
        intro j
        rw [List.getElem?_map, List.getElem?_map, hget]
        split
        · rename_i hj; subst hj; rw [List.getElem?_eq_getElem hi]; rfl
        · rfl
      rw [this]; exact h.born
    · intro e he
      rw [hlist] at he
      obtain ⟨j, hj⟩ := List.mem_iff_getElem?.1 he
      rw [hget] at hj
      split at hj
      · cases hj; exact h.below es.toList[i] (List.getElem_mem hi)
      · exact h.below e (List.mem_of_getElem? hj)
    · intro a b e e' q ha hb hqa hqb
      rw [hlist] at ha hb
      rw [hget] at ha hb
      have hfix : ∀ (a : Nat) (e : MapEntry), (if a = i then some (F es.toList[i]) else es.toList[a]?) = some e → keyIs2 q e = true → ∃ e0, es.toList[a]? = some e0 ∧ keyIs2 q e0 = true := by
        intro a e ha hqa
        split at ha
        · rename_i hai; subst hai
          cases ha
          exact ⟨es.toList[a], List.getElem?_eq_getElem hi, by rw [hkey]; rw [hkF] at hqa; exact hqa⟩
        · exact ⟨e, ha, hqa⟩
      obtain ⟨e1, h1, h2⟩ := hfix a e ha hqa
      obtain ⟨e2, h3, h4⟩ := hfix b e' hb hqb
      exact h.once a b e1 e2 q h1 h3 h2 h4
def pmapAt (m : Nat) (f : Int × Int → Option Value) (k : Int × Int) (st : Int) : HP := ex fun es : Array MapEntry => ex fun clock : Nat => pr (MapOk2 es.toList clock f ∧ ∃ e ∈ es.toList, e.key = key2 k ∧ ((e.born : Nat) : Int) = st) * po m (.map es clock)
theorem wps_ent {enc : β → Value} {z : β} {k : β × Int → M α} {m : Nat} {j : Int × Int} {f : Int × Int → Option Value} (c : Option β) (hH : H = H' * pmap m f) (hc : f j = c.map enc)
    (h : ∀ st, wps g (H' * pmapAt m (fun i => if i = j then some (enc (c.getD z)) else f i) j st) (k (c.getD z, st)) Q) : wps g H (bindM (entM enc z (some m) j) k) Q := fun w a Qf ho ha hq => by
  rw [hH] at ha
  obtain ⟨es, clock, hm, ha⟩ := pmap_open ha
  refine ⟨m, es, clock, rfl, own_po ho ha, hm.keys, ?_⟩
  cases hf : es.toList.findIdx? (keyIs2 j) with
  | some i =>
    obtain ⟨hlt, hkey, _⟩ := List.findIdx?_eq_some_iff_getElem.1 hf
    have hmem : es.toList[i] ∈ es.toList := List.getElem_mem hlt
    have hfj : f j = some es.toList[i].val := (hm.find j _).2 ⟨_, hmem, hkey, rfl⟩
    cases c with
    | none => rw [hfj] at hc; cases hc
    | some y =>
      have hv : es.toList[i].val = enc y := by rw [hfj] at hc; exact Option.some.inj hc
      have hk2 : es.toList[i].key = key2 j := by
        obtain ⟨q, hq2⟩ := hm.keys _ hmem
        rw [keyIs2_pair hq2] at hkey
        rw [hq2, show j = q by simpa using hkey]
      refine .inl ⟨y, i, es.toList[i], rfl, List.getElem?_eq_getElem hlt, hv, ?_⟩
      obtain ⟨a', ho', ha'⟩ := own_put (.map es clock) (fun _ _ _ h => by cases h) ho ha
      refine h _ _ a' Qf ho' ?_ hq
      refine Ent.starr ?_ a' ha'
      refine ent_ex es (ent_ex clock (ent_prr ⟨?_, es.toList[i], hmem, hk2, rfl⟩ (Ent.refl _)))
      have : (fun i => if i = j then some (enc ((some y).getD z)) else f i) = f := by
        funext i
        by_cases hi : i = j
        · subst hi; rw [if_pos rfl, hfj, hv]; rfl
        · rw [if_neg hi]
      rw [this]; exact hm
  | none =>
    have hno : ∀ e ∈ es.toList, keyIs2 j e = false := by simpa [List.findIdx?_eq_none_iff] using hf
    cases c with
    | some y =>
      obtain ⟨e, he, h1, _⟩ := (hm.find j (enc y)).1 hc
      rw [hno e he] at h1; cases h1
    | none =>
      refine .inr ⟨rfl, ?_⟩
      obtain ⟨es', clock', he, hok⟩ := mapPut2_ok hm j (enc z)
      unfold mapPut2 at he
      rw [hf] at he
      simp only [Obj.map.injEq] at he
      obtain ⟨rfl, rfl⟩ := he
      obtain ⟨a', ho', ha'⟩ := own_put (.map (es.push { key := key2 j, val := enc z, born := clock }) (clock + 1)) (fun _ _ _ h => by cases h) ho ha
      refine h _ _ a' Qf ho' ?_ hq
      refine Ent.starr ?_ a' ha'
      exact ent_ex _ (ent_ex _ (ent_prr ⟨hok, { key := key2 j, val := enc z, born := clock }, by simp, rfl, rfl⟩ (Ent.refl _)))
theorem wps_entSt {k : Unit → M α} {m : Nat} {j : Int × Int} {st : Int} {v : Value} {f : Int × Int → Option Value} (hH : H = H' * pmapAt m f j st)
    (h : wps g (H' * pmap m (fun i => if i = j then some v else f i)) (k ()) Q) : wps g H (bindM (entStM (some m) st v) k) Q := fun w a Qf ho ha hq => by
  rw [hH] at ha
  obtain ⟨a1, a2, hd, hl, h1, es, clock, h2⟩ := ha
  obtain ⟨hm, e, he, hek, hst⟩ := ent_left _ _ a2 h2
  have ha : (H' * po m (.map es clock)).p a := ⟨a1, a2, hd, hl, h1, ent_right _ _ a2 h2⟩
  obtain ⟨i, hi, rfl⟩ := List.mem_iff_getElem.1 he
  have hp := List.pairwise_iff_getElem.1 hm.born
  have hidx : es.findIdx? (fun e => ((e.born : Nat) : Int) == st) = some i := by
    rw [show ∀ (xs : Array MapEntry) (p : MapEntry → Bool), xs.findIdx? p = xs.toList.findIdx? p from fun xs p => by cases xs; simp, List.findIdx?_eq_some_iff_getElem]
    refine ⟨hi, by simpa using hst, fun q hq => ?_⟩
    have := hp q i (by simpa using (by omega : q < es.toList.length)) (by simpa using hi) hq
    simp only [List.getElem_map] at this
    simp only [beq_iff_eq]
    omega
  refine ⟨m, es, clock, i, rfl, own_po ho ha, hidx, ?_⟩
  have hkj : keyIs2 j es.toList[i] = true := by rw [keyIs2_pair hek]; simp
  have hf : es.toList.findIdx? (keyIs2 j) = some i := by
    rw [List.findIdx?_eq_some_iff_getElem]
    refine ⟨hi, hkj, fun q hq hq2 => ?_⟩
    have := hm.once q i _ _ j (List.getElem?_eq_getElem (by omega)) (List.getElem?_eq_getElem hi) hq2 hkj
    omega
  obtain ⟨es', clock', he', hok⟩ := mapPut2_ok hm j v
  unfold mapPut2 at he'
  rw [hf] at he'
  simp only [Obj.map.injEq] at he'
  obtain ⟨rfl, rfl⟩ := he'
  have hsame : (es.modify i fun e => { e with key := key2 j, val := v }) = es.modify i fun e => { e with val := v } := by
    apply Array.ext_getElem?
    intro q
    rw [Array.getElem?_modify, Array.getElem?_modify]
    by_cases hqi : i = q
    · subst hqi
      rw [if_pos rfl, if_pos rfl]
      have : es[i]? = some es.toList[i] := by rw [← Array.getElem?_toList]; exact List.getElem?_eq_getElem hi
      rw [this]
      simp only [Option.map_some, hek]
    · rw [if_neg hqi, if_neg hqi]
  rw [hsame] at hok
  obtain ⟨a', ho', ha'⟩ := own_put (.map (es.modify i fun e => { e with val := v }) clock) (fun _ _ _ h => by cases h) ho ha
  exact h _ a' Qf ho' (pmap_close hok ha') hq
end
structure ItrOk2 (es : Array MapEntry) (clock : Nat) (seen : Array Nat) (f : Int × Int → Option Value) (V : Int × Int → Bool) : Prop where
  map : MapOk2 es.toList clock f
  seen : ∀ e ∈ es.toList, ∀ k, keyIs2 k e = true → seen.contains e.born = V k
def itrP (it m : Nat) (es : Array MapEntry) (clock : Nat) (seen : Array Nat) : HP := po it (.mapIter (some m) clock seen clock) * po m (.map es clock)
def itr2 (it m : Nat) (f : Int × Int → Option Value) (V : Int × Int → Bool) : HP := ex fun es : Array MapEntry => ex fun clock : Nat => ex fun seen : Array Nat => pr (ItrOk2 es clock seen f V) * itrP it m es clock seen
def itr2At (it m : Nat) (f : Int × Int → Option Value) (V : Int × Int → Bool) (j : Int × Int) (v : Value) : HP := ex fun es : Array MapEntry => ex fun clock : Nat => ex fun seen : Array Nat =>
  pr (ItrOk2 es clock seen f (fun i => V i || i == j) ∧ ∃ e ∈ es.toList, e.key = key2 j ∧ e.val = v ∧ seen.back? = some e.born) * itrP it m es clock seen
theorem MapOk2.one {es : List MapEntry} {clock : Nat} {f : Int × Int → Option Value} (h : MapOk2 es clock f) {e e' : MapEntry} (he : e ∈ es) (he' : e' ∈ es) (hb : e.born = e'.born) : e = e' := by
  obtain ⟨i, hi, rfl⟩ := List.mem_iff_getElem.1 he
  obtain ⟨j, hj, rfl⟩ := List.mem_iff_getElem.1 he'
  have hp := List.pairwise_iff_getElem.1 h.born
  rcases Nat.lt_trichotomy i j with hlt | heq | hgt
  · have := hp i j (by simpa using hi) (by simpa using hj) hlt
    simp only [List.getElem_map] at this
    omega
  · subst heq; rfl
  · have := hp j i (by simpa using hj) (by simpa using hi) hgt
    simp only [List.getElem_map] at this
    omega
section
variable {α β σ γ κ : Type} {g : Fr} {H H' : HP} {Q : α → HP}
theorem wps_rangeMap2 {k : Addr → M α} {m : Nat} {f : Int × Int → Option Value} (hH : H = H' * pmap m f) (h : ∀ it, wps g (H' * itr2 it m f (fun _ => false)) (k ⟨it, 0, none⟩) Q) : wps g H (bindM (rangeMapM (some m)) k) Q := fun w a Qf ho ha hq => by
  rw [hH] at ha
  obtain ⟨es, clock, hm, ha⟩ := pmap_open ha
  refine ⟨es, clock, own_po ho ha, ?_⟩
  have hpu := own_push ho (.mapIter (some m) clock #[] clock) (World.pushO w (.mapIter (some m) clock #[] clock)) rfl ⟨rfl, rfl⟩ (fun _ _ _ h => by cases h)
  have q1 : (H' * po m (.map es clock) * po w.heap.size (.mapIter (some m) clock #[] clock)).p _ := ⟨a, _, hpu.2, Hp.le_refl _, ha, by simp [po]⟩
  refine h w.heap.size _ _ Qf hpu.1 (?_ : HP.p _ _) hq
  refine Ent.trans (Ent.of_eq (star_assoc _ _ _)) (Ent.starr ?_) _ q1
  refine ent_ex es (ent_ex clock (ent_ex #[] (ent_prr ⟨hm, fun e he k hk => by simp⟩ ?_)))
  rw [star_comm]; exact Ent.refl _
theorem wps_next2 {k : Option (Value × Value) → M α} {it m : Nat} {f : Int × Int → Option Value} {V : Int × Int → Bool} (hH : H = H' * itr2 it m f V)
    (h0 : (∀ j v, f j = some v → V j = true) → wps g (H' * itr2 it m f V) (k none) Q)
    (h1 : ∀ j v, f j = some v → V j = false → wps g (H' * itr2At it m f V j v) (k (some (key2 j, v))) Q) : wps g H (bindM (nextM ⟨it, 0, none⟩) k) Q := fun w a Qf ho ha hq => by
  rw [hH] at ha
  obtain ⟨es, clock, seen, ha⟩ := ex3_open ha
  rw [star_left_comm] at ha
  have hok : ItrOk2 es clock seen f V := ent_left _ _ a ha
  have ha := ent_right _ _ a ha
  have ham : (H' * po it (.mapIter (some m) clock seen clock) * po m (.map es clock)).p a := by rw [star_assoc]; exact ha
  have hai : (H' * po m (.map es clock) * po it (.mapIter (some m) clock seen clock)).p a := by rw [star_right_comm]; exact ham
  have hmem := own_po ho ham
  have hit := own_po ho hai
  refine ⟨rfl, .inr ⟨m, clock, seen, clock, es, clock, hit, hmem, ?_, ?_, ?_⟩⟩
  · cases hes : es.isEmpty with
    | true => simp
    | false =>
      have : ¬ (es.all fun e => decide (e.born ≥ clock)) = true := by
        intro hall
        rw [Array.all_eq_true_iff_forall_mem] at hall
        have hne : es.size ≠ 0 := by
          intro h0; simp at h0; simp [h0] at hes
        have h1 := hall es[0] (Array.getElem_mem (by omega))
        have h2 := hok.map.below es[0] (by rw [Array.mem_toList_iff]; exact Array.getElem_mem (by omega))
        simp at h1; omega
      simp only [Bool.and_eq_false_iff]
      right
      simpa using this
  · unfold iterCands
    simp only
    split
    · simp
    · rename_i hne
      have h2 : 0 < ((iterLeft es seen).filter fun x => decide (x.born < clock)).size := by
        rw [Array.isEmpty_iff_size_eq_zero] at hne
        omega
      simp only [Array.size_append, Array.size_map]
      omega
  · intro c hc
    have hmemc : (c = none ∧ ∀ e ∈ es.toList, seen.contains e.born = true) ∨ ∃ e ∈ es.toList, seen.contains e.born = false ∧ c = some e := by
      unfold iterCands at hc
      simp only at hc
      rw [Array.mem_append] at hc
      rcases hc with hc | hc
      · split at hc
        · rename_i hem
          left
          refine ⟨by simpa using hc, fun e he => ?_⟩
          rw [Array.isEmpty_iff_size_eq_zero, Array.size_eq_zero_iff, Array.filter_eq_empty_iff] at hem
          cases hs : seen.contains e.born with
          | true => rfl
          | false =>
            have hl : e ∈ iterLeft es seen := by
              unfold iterLeft
              rw [Array.mem_filter]
              exact ⟨Array.mem_toList_iff.1 he, by simp only [hs]; rfl⟩
            exact absurd (decide_eq_true (hok.map.below e he)) (hem e hl)
        · simp at hc
      · right
        rw [Array.mem_map] at hc
        obtain ⟨e, he, rfl⟩ := hc
        have hl : e ∈ iterLeft es seen := by
          rw [Array.mem_append] at he
          rcases he with he | he
          · exact (Array.mem_filter.1 he).1
          · exact (Array.mem_filter.1 he).1
        unfold iterLeft at hl
        rw [Array.mem_filter] at hl
        exact ⟨e, Array.mem_toList_iff.2 hl.1, by simpa using hl.2, rfl⟩
    rcases hmemc with ⟨rfl, hall⟩ | ⟨e, he, hs, rfl⟩
    · have hall' : ∀ j v, f j = some v → V j = true := fun j v hj => by
        obtain ⟨e, he, hk, _⟩ := (hok.map.find j v).1 hj
        rw [← hok.seen e he j hk]
        exact hall e he
      have hpost : (H' * itr2 it m f V).p a := by
        refine Ent.starr ?_ a ha
        exact ent_ex es (ent_ex clock (ent_ex seen (ent_prr hok (Ent.refl _))))
      exact ⟨h0 hall' w a Qf ho hpost hq, h0 hall' (drawW w) a Qf (own_draw ho) hpost hq⟩
    · obtain ⟨j, hj⟩ := hok.map.keys e he
      have hkj : keyIs2 j e = true := by rw [keyIs2_pair hj]; simp
      have hfj : f j = some e.val := (hok.map.find j e.val).2 ⟨e, he, hkj, rfl⟩
      have hVj : V j = false := by rw [← hok.seen e he j hkj]; exact hs
      have hok' : ItrOk2 es clock (seen.push e.born) f (fun i => V i || i == j) := ⟨hok.map, fun e' he' i hi => by
        have h2 := hok.seen e' he' i hi
        obtain ⟨n', hn'⟩ := hok.map.keys e' he'
        have hni : i = n' := by rw [keyIs2_pair hn'] at hi; simpa using hi
        have hcp : (seen.push e.born).contains e'.born = (seen.contains e'.born || e'.born == e.born) := by
          rw [Bool.eq_iff_iff]; simp [Array.mem_push]
        rw [hcp, h2]
        congr 1
        by_cases hb : e'.born = e.born
        · have := hok.map.one he' he hb
          subst this
          have hjn : j = n' := by have h9 := congrArg pairOf (hj.symm.trans hn'); simpa only [pairOf_key2] using h9
          simp [hni, hjn]
        · have : ¬ i = j := by
            intro hij
            subst hij
            obtain ⟨x, hx⟩ := List.mem_iff_getElem?.1 he'
            obtain ⟨y, hy⟩ := List.mem_iff_getElem?.1 he
            have hxy := hok.map.once x y e' e i hx hy hi hkj
            subst hxy
            rw [hx] at hy
            exact hb (by rw [Option.some.inj hy])
          rw [show (e'.born == e.born) = false from by simpa using hb, show (i == j) = false from by simpa using this]⟩
      have step : ∀ w1, Own w1 a g → nextPost (fun y w' => k y Qf w') it m clock seen clock w1 (some e) := by
        intro w1 ho1
        obtain ⟨a', ho', ha'⟩ := own_put (.mapIter (some m) clock (seen.push e.born) clock) (fun _ _ _ h => by cases h) ho1 hai
        show k (some (e.key, e.val)) Qf _
        rw [hj]
        refine h1 j e.val hfj hVj _ a' Qf ho' ?_ hq
        refine Ent.trans (Ent.of_eq (star_assoc _ _ _)) (Ent.starr ?_) a' ha'
        refine ent_ex es (ent_ex clock (ent_ex (seen.push e.born) (ent_prr ⟨hok', e, he, hj, rfl, by simp⟩ ?_)))
        unfold itrP
        rw [star_comm]; exact Ent.refl _
      exact ⟨step w ho, step (drawW w) (own_draw ho)⟩
theorem wps_entry2 {ev : β → Value} {k : (Int × Int) × β → M α} {it m : Nat} {f : Int × Int → Option Value} {V : Int × Int → Bool} {j : Int × Int} {v : Value} (y : β) (hH : H = H' * itr2At it m f V j v) (hy : v = ev y)
    (h : wps g (H' * itr2 it m f (fun i => V i || i == j)) (k (j, y)) Q) : wps g H (bindM (entryM key2 ev ⟨it, 0, none⟩) k) Q := fun w a Qf ho ha hq => by
  rw [hH] at ha
  obtain ⟨es, clock, seen, ha⟩ := ex3_open ha
  rw [star_left_comm] at ha
  obtain ⟨hok, e, he, hk, hv, hb⟩ := ent_left _ _ a ha
  have ha := ent_right _ _ a ha
  have ham : (H' * po it (.mapIter (some m) clock seen clock) * po m (.map es clock)).p a := by rw [star_assoc]; exact ha
  have hai : (H' * po m (.map es clock) * po it (.mapIter (some m) clock seen clock)).p a := by rw [star_right_comm]; exact ham
  refine ⟨rfl, m, clock, seen, clock, es, clock, e.born, e, j, y, own_po ho hai, hb, own_po ho ham, rfl, ?_, hk, by rw [hv, hy], h w a Qf ho ?_ hq⟩
  · have : es.find? (fun x => x.born == e.born) = some e := by
      rw [← Array.find?_toList]
      cases hf : es.toList.find? (fun x => x.born == e.born) with
      | none =>
        rw [List.find?_eq_none] at hf
        exact absurd (by simp) (hf e he)
      | some e' =>
        have h1 := List.find?_some hf
        have h2 := List.mem_of_find?_eq_some hf
        rw [hok.map.one h2 he (by simpa using h1)]
    exact this
  · refine Ent.starr ?_ a ha
    exact ent_ex es (ent_ex clock (ent_ex seen (ent_prr hok (Ent.refl _))))
end
end Go.Mo
namespace Go.Proofs.Ytldmeimebebllaa
open Go.Mo
set_option linter.unusedVariables false
theorem w64_id {n : Int} (h : -9223372036854775808 ≤ n) (h' : n < 9223372036854775808) : w64 n = n := by
  unfold w64 IntKind.wrap
  simp only [IntKind.bits, IntKind.signed]
  by_cases hm : n % (2 : Int) ^ 64 ≥ (2 : Int) ^ (64 - 1)
  · simp only [hm, decide_true, Bool.true_and, if_true]; omega
  · simp only [hm, decide_false, Bool.and_false]; simp only [Bool.false_eq_true, if_false]; omega
abbrev G3 := Int × Int × Int
theorem geo_within_val {g : Fr} {H : HP} (n a b : Int) : Val g H (geo_within n a b) (decide (a ≤ n ∧ n ≤ b)) := by
  unfold geo_within
  refine val_eq (v := decide (a ≤ n ∧ n ≤ b)) (u := if decide (a ≤ n) = true then decide (n ≤ b) else false) ?_ (by by_cases h : a ≤ n <;> simp [h])
  repeat first | ((with_reducible apply wps_val); apply val_ite; rotate_left; refine fun (_ : ¬ _) => ?_; rotate_right; refine fun (_ : _ = true) => ?_) | (with_reducible exact wps_pure (ent_val rfl))
theorem geo_others_val {g : Fr} {H : HP} (p : G3) : Val g H (geo_others p) (w64 (1 + w64 (Int.tdiv p.2.2 8))) := by
  unfold geo_others
  repeat first | (with_reducible refine wps_alloc fun _ => ?_) | (refine wps_ld _ (by rfl) ?_) | (with_reducible exact wps_pure (ent_val rfl))
theorem geo_places_val {g : Fr} {H : HP} (p : G3) : Val g H (geo_places p) (w64 (w64 (p.2.1 * w64 (p.1 - 1)) - 1)) := by
  unfold geo_places
  repeat first | (with_reducible refine wps_alloc fun _ => ?_) | (refine wps_ld _ (by rfl) ?_) | (with_reducible exact wps_pure (ent_val rfl))
structure Bnd (p : G3) : Prop where
  d3 : 3 ≤ p.1
  d16 : p.1 ≤ 16
  r1 : 1 ≤ p.2.1
  r4 : p.2.1 ≤ 4
  s12 : 12 ≤ p.2.2
  s64 : p.2.2 ≤ 64
def othersI (p : G3) : Int := 1 + p.2.2 / 8
def placesI (p : G3) : Int := p.2.1 * (p.1 - 1) - 1
theorem Bnd.others {p : G3} (h : Bnd p) : w64 (1 + w64 (Int.tdiv p.2.2 8)) = othersI p ∧ 2 ≤ othersI p ∧ othersI p ≤ 9 := by
  have := h.s12
  have := h.s64
  rw [Int.tdiv_eq_ediv_of_nonneg (by omega), w64_id (n := p.2.2 / 8) (by omega) (by omega), w64_id (by omega) (by omega)]
  unfold othersI
  omega
theorem Bnd.mul {p : G3} (h : Bnd p) : 2 ≤ p.2.1 * (p.1 - 1) ∧ p.2.1 * (p.1 - 1) ≤ 60 := by
  have h1 := h.d3
  have h2 := h.d16
  have h3 := h.r1
  have h4 := h.r4
  have : p.2.1 = 1 ∨ p.2.1 = 2 ∨ p.2.1 = 3 ∨ p.2.1 = 4 := by omega
  rcases this with e | e | e | e <;> rw [e] <;> omega
theorem Bnd.places {p : G3} (h : Bnd p) : w64 (w64 (p.2.1 * w64 (p.1 - 1)) - 1) = placesI p ∧ 1 ≤ placesI p ∧ placesI p ≤ 59 := by
  have h1 := h.d3
  have h2 := h.d16
  have := h.mul
  rw [w64_id (n := p.1 - 1) (by omega) (by omega), w64_id (n := p.2.1 * (p.1 - 1)) (by omega) (by omega), w64_id (by omega) (by omega)]
  unfold placesI
  omega
theorem Bnd.prod {p : G3} (h : Bnd p) : w64 (othersI p * placesI p) = othersI p * placesI p := by
  have h1 := h.others.2
  have h2 := h.places.2
  have h3 : othersI p * placesI p ≤ 9 * 59 := Int.mul_le_mul h1.2 h2.2 (by omega) (by omega)
  have h4 : 0 ≤ othersI p * placesI p := Int.mul_nonneg (by omega) (by omega)
  rw [w64_id] <;> omega
def RightB (p : G3) : Bool := decide (3 ≤ p.1 ∧ p.1 ≤ 16) && (decide (1 ≤ p.2.1 ∧ p.2.1 ≤ 4) && (decide (12 ≤ p.2.2 ∧ p.2.2 ≤ 64) && decide (8 ≤ othersI p * placesI p)))
theorem RightB.bnd {p : G3} (h : RightB p = true) : Bnd p := by
  simp only [RightB, Bool.and_eq_true, decide_eq_true_eq] at h
  exact ⟨h.1.1, h.1.2, h.2.1.1, h.2.1.2, h.2.2.1.1, h.2.2.1.2⟩
theorem geo_Right_val {g : Fr} {H : HP} (p : G3) : Val g H (geo_Right p) (RightB p) := by
  unfold geo_Right
  repeat first | (with_reducible refine wps_stepV (geo_within_val _ _ _) ?_) | (with_reducible refine wps_alloc fun _ => ?_) | (refine wps_ldI _ (by rfl) ?_) | (with_reducible refine wps_regionH ?_)
  refine wps_ite (fun h1 => ?_) (fun h1 => ?_)
  · repeat first | (with_reducible refine wps_stepV (geo_within_val _ _ _) ?_) | (refine wps_ldI _ (by rfl) ?_)
    refine wps_ite (fun h2 => ?_) (fun h2 => ?_)
    · repeat first | (with_reducible refine wps_stepV (geo_within_val _ _ _) ?_) | (refine wps_ldI _ (by rfl) ?_)
      refine wps_ite (fun h3 => ?_) (fun h3 => ?_)
      · repeat first | (with_reducible refine wps_stepV (geo_others_val _) ?_) | (with_reducible refine wps_stepV (geo_places_val _) ?_) | (refine wps_ldGI _ _ _ (by rfl) ?_)
        refine wps_pure (ent_val ?_)
        simp only [decide_eq_true_eq] at h1 h2 h3
        have hb : Bnd p := ⟨h1.1, h1.2, h2.1, h2.2, h3.1, h3.2⟩
        simp only [hb.others.1, hb.places.1, hb.prod, RightB, h1, h2, h3]
        simp
      · refine wps_pure (ent_val ?_)
        simp only [RightB, h1, h2, h3]; simp
    · refine wps_pure (ent_val ?_)
      simp only [RightB, h1, h2]; simp
  · refine wps_pure (ent_val ?_)
    simp only [RightB, h1]; simp
theorem ref03_Right_val {g : Fr} {H : HP} (p : G3) : Val g H (ref03_Right p) (RightB p) := by
  unfold ref03_Right
  apply val_eq
  · repeat (first
      | (with_reducible refine wps_alloc fun _ => ?_)
      | (refine wps_ld _ (by rfl) ?_)
      | ((with_reducible apply wps_val); apply val_ite; rotate_left; refine fun (_ : ¬ _) => ?_; rotate_right; refine fun (_ : _ = true) => ?_)
      | ((with_reducible apply val_ite); rotate_left; refine fun (_ : ¬ _) => ?_; rotate_right; refine fun (_ : _ = true) => ?_)
      | (with_reducible exact wps_pure (ent_val rfl)))
  · by_cases h1 : 3 ≤ p.1
    · by_cases h2 : p.1 ≤ 16
      · by_cases h3 : 1 ≤ p.2.1
        · by_cases h4 : p.2.1 ≤ 4
          · by_cases h5 : 12 ≤ p.2.2
            · by_cases h6 : p.2.2 ≤ 64
              · have hb : Bnd p := ⟨h1, h2, h3, h4, h5, h6⟩
                simp only [hb.others.1, hb.places.1, hb.prod]
                simp [RightB, h1, h2, h3, h4, h5, h6, Int.not_lt]
              · simp [RightB, h6, Int.not_le.1 h6]
            · simp [RightB, h5, Int.not_le.1 h5]
          · simp [RightB, h4, Int.not_le.1 h4]
        · simp [RightB, h3, Int.not_le.1 h3]
      · simp [RightB, h2, Int.not_le.1 h2]
    · simp [RightB, h1, Int.not_le.1 h1]
end Go.Proofs.Ytldmeimebebllaa
namespace Go.Proofs.Ytldmeimebebllaa
open Go.Mo
set_option linter.unusedVariables false
def imp (p : Prop) (A : HP) : HP := ⟨fun o => p → A.p o, fun hl h hp => A.up hl (h hp)⟩
def bv (b : List Int) : List Value := b.map (Value.int .u8)
def byt (s : Slc) (b : List Int) : HP := rsl 1 s (bv b)
structure Dk where
  lasts : Nat → List Int
  cached : Int → Option (List Int)
  failed : Bool
  count : Int
def Dk.ok (D : Dk) (ns : Nat) : Prop := (∀ k, k < ns → (D.lasts k).length = 64) ∧ ∀ j b, D.cached j = some b → b.length = 64 ∧ 0 ≤ j ∧ j < ns
structure Rk where
  n : Nat
  ns : Nat
  dk : Nat → Dk
  count : Int
  off : Bool
def pv (b : Nat) : Value := .pointer (some ⟨b, 0, none⟩)
def noughts : List Int := List.replicate 64 0
def Dk.new : Dk := ⟨fun _ => noughts, fun _ => none, false, -1⟩
def Rk.new (n s : Nat) : Rk := ⟨n, s, fun _ => Dk.new, -1, false⟩
end Go.Proofs.Ytldmeimebebllaa
namespace Go.Proofs.Ytldmeimebebllaa
open Go.Mo
set_option linter.unusedVariables false
theorem range_add1 {n : Nat} {i : Int} (h : i = (n : Int)) (h2 : n < 4611686018427387904) : w64 (i + 1) = ((n + 1 : Nat) : Int) := by
  subst h; rw [w64_id] <;> omega
end Go.Proofs.Ytldmeimebebllaa
namespace Go.Proofs.Ytldmeimebebllaa
open Go.Mo
set_option linter.unusedVariables false
variable {g : Fr}
abbrev Dk.tick (D : Dk) : Dk := { D with failed := if D.failed = true then true else D.count == 0, count := maxI (w64 (D.count - 1)) (-1) }
def Rk.ticked (R : Rk) : Rk := if R.count = 0 then { R with off := true } else { R with count := maxI (w64 (R.count - 1)) (-1), dk := fun j => (R.dk j).tick }
def Rk.part (R : Rk) (i : Nat) : Nat → Dk := fun j => if j < i then (R.dk j).tick else R.dk j
theorem len_of {H : HP} {s : Slc} {b : List Int} (h : Ent H (byt s b)) : Ent H (pr (b.length = s.len)) := Ent.trans h (Ent.trans (rsl_len 1 s (bv b)) fun o ho => by
  have : (bv b).length = s.len * 1 := ho
  show b.length = s.len
  simpa [bv] using this)
def Rk.gate (R : Rk) (k s size : Int) : Int :=
  if R.off then 12 else if k < 0 ∨ k ≥ R.n ∨ s < 0 ∨ s ≥ R.ns then 11 else if size ≠ 64 then 11 else if R.count = 0 then 12 else if (R.ticked.dk k.toNat).failed then 13 else 0
def Rk.gated (R : Rk) (k s size : Int) : Rk := if R.off = true ∨ (k < 0 ∨ k ≥ R.n ∨ s < 0 ∨ s ≥ R.ns) ∨ size ≠ 64 then R else R.ticked
def Rk.put (R : Rk) (k s : Int) (b : List Int) : Rk := { R with dk := fun j => if j = k.toNat then { R.dk j with cached := fun i => if i = s then some b else (R.dk j).cached i } else R.dk j }
def Rk.write (R : Rk) (k s : Int) (b : List Int) : Rk := if R.gate k s b.length = 0 then (R.gated k s b.length).put k s b else R.gated k s b.length
theorem gate_ok {R : Rk} {k s size : Int} (h : R.gate k s size = 0) : ¬ R.off = true ∧ ¬ (k < 0 ∨ k ≥ R.n ∨ s < 0 ∨ s ≥ R.ns) ∧ size = 64 ∧ R.count ≠ 0 ∧ R.gated k s size = R.ticked := by
  unfold Rk.gate at h
  by_cases ho : R.off = true
  · rw [if_pos ho] at h; cases h
  rw [if_neg ho] at h
  by_cases hr : k < 0 ∨ k ≥ R.n ∨ s < 0 ∨ s ≥ R.ns
  · rw [if_pos hr] at h; cases h
  rw [if_neg hr] at h
  by_cases hs : size ≠ 64
  · rw [if_pos hs] at h; cases h
  rw [if_neg hs] at h
  by_cases hc : R.count = 0
  · rw [if_pos hc] at h; cases h
  refine ⟨ho, hr, by simpa using hs, hc, ?_⟩
  rw [Rk.gated, if_neg]
  rintro (h | h | h)
  · exact ho h
  · exact hr h
  · exact hs h
def Rk.rdErr (R : Rk) (k s : Int) : Int := if R.off then 12 else if k < 0 ∨ k ≥ R.n ∨ s < 0 ∨ s ≥ R.ns then 11 else if (R.dk k.toNat).failed then 13 else 0
def Dk.sec (D : Dk) (s : Int) : List Int := match D.cached s with | some b => b | none => D.lasts s.toNat
def Rk.rd (R : Rk) (k s : Int) : List Int := if R.rdErr k s = 0 then (R.dk k.toNat).sec s else []
end Go.Proofs.Ytldmeimebebllaa
namespace Go.Proofs.Ytldmeimebebllaa
open Go.Mo
set_option linter.unusedVariables false
variable {g : Fr}
def slotV (q m : G3) (slot : Int) : Int × Bool := if slot < 0 ∨ slot ≥ q.1 then (0, false) else if m.2.2 ≠ 0 ∧ m.2.1 = slot then (q.1, true) else (slot, true)
end Go.Proofs.Ytldmeimebebllaa
namespace Go.Proofs.Ytldmeimebebllaa
open Go.Mo
set_option linter.unusedVariables false
variable {g : Fr}
def rlast (R : Rk) (i : Nat) : List Int := (R.dk (i / R.ns)).lasts (i % R.ns)
def rcach (R : Rk) (i : Nat) : List Int := ((R.dk (i / R.ns)).cached ((i % R.ns : Nat) : Int)).getD []
end Go.Proofs.Ytldmeimebebllaa



namespace Go.Proofs.Ytldmeimebebllaa
open Go.Mo
set_option linter.unusedVariables false
variable {g : Fr}
theorem bv_get {b : List Int} {n : Nat} {v : Int} (h : b[n]? = some v) : (bv b)[n]? = some (Value.int .u8 v) := by simp [bv, h]
theorem ref00_SameBytes_val {H : HP} {a b : Slc} {x y : List Int} (ha : Ent H (byt a x)) (hb : Ent H (byt b y)) (hx : x.length < 4611686018427387904) : Val g H (ref00_SameBytes a b) (decide (x = y)) := by
  unfold ref00_SameBytes
  refine wps_fact (len_of ha) fun hla => wps_fact (len_of hb) fun hlb => ?_
  refine wps_ite (fun hne => ?_) (fun hne => ?_)
  · refine wps_pure (ent_val ?_)
    have hne' : ¬ a.len = b.len := by
      have : ¬ (a.len : Int) = b.len := by simpa using hne
      omega
    have : ¬ x = y := fun e => hne' (by rw [← hla, ← hlb, e])
    simp [this]
  · have heq : a.len = b.len := by
      have : (a.len : Int) = b.len := by simpa using hne
      omega
    refine wps_loop (fun i => ex fun n : Nat => pr (i = (n : Int) ∧ n ≤ x.length ∧ x.take n = y.take n) * H) (fun i => (x.length - i).toNat) ?_ fun i => ?_
    · exact ent_ex 0 (ent_prr ⟨rfl, by omega, by simp⟩ (Ent.refl _))
    · refine wps_ex fun n => wps_pr fun ⟨hi, hn, ht⟩ => ?_
      refine wps_ite (fun hc => ?_) (fun hc => ?_)
      · have hlt : n < x.length := by simp only [decide_eq_true_eq] at hc; omega
        have hlt2 : n < y.length := by omega
        refine wps_regionH ?_
        refine wps_rdI n x[n] ha (Ent.refl _) hi (bv_get (List.getElem?_eq_getElem hlt)) ?_
        refine wps_rdI n y[n] hb (Ent.refl _) hi (bv_get (List.getElem?_eq_getElem hlt2)) ?_
        refine wps_ite (fun hd => ?_) (fun hd => ?_)
        · have hd' : ¬ x[n] = y[n] := by simpa using hd
          refine wps_mapR (wps_pure (ent_prr ?_ (Ent.refl _)))
          have : ¬ x = y := fun e => hd' (by subst e; rfl)
          simp [this]
        · have hd' : x[n] = y[n] := by simpa using hd
          refine wps_pure (ent_prr (by rw [range_add1 hi (by omega)]; omega) (ent_ex (n + 1) (ent_prr ⟨range_add1 hi (by omega), by omega, ?_⟩ (Ent.refl _))))
          rw [List.take_add_one, List.take_add_one, ht, List.getElem?_eq_getElem hlt, List.getElem?_eq_getElem hlt2, hd']
      · have hne : n = x.length := by simp only [decide_eq_true_eq] at hc; omega
        refine wps_mapR (wps_pure (ent_prr ?_ (Ent.refl _)))
        have : x = y := by
          rw [hne, List.take_length] at ht
          rw [ht, List.take_of_length_le (by omega)]
        simp [this]
end Go.Proofs.Ytldmeimebebllaa
namespace Go.Proofs.Ytldmeimebebllaa
open Go.Mo
set_option linter.unusedVariables false
variable {g : Fr} {cv : CV}
theorem rsl_room {z : Nat} {s : Slc} {cs : List Value} : Ent (rsl z s cs) (pr (s.len ≠ 0 → s.len ≤ s.cap)) := fun o ho h0 => by
  rcases ho with ho | ho
  · exact absurd ho.1 h0
  · obtain ⟨ad, all, ho⟩ := ho
    exact (ent_left _ _ o ho).2.2.1
theorem flat_take {γ : Type} {f : γ → List Value} {z : Nat} (hf : ∀ c, (f c).length = z) : ∀ (l : List γ) (n : Nat), (l.flatMap f).take (n * z) = (l.take n).flatMap f
  | [], n => by simp
  | x :: l, 0 => by simp
  | x :: l, n + 1 => by
    rw [List.flatMap_cons, List.take_succ_cons, List.flatMap_cons, List.take_append, hf, Nat.add_mul, Nat.one_mul, Nat.add_sub_cancel, flat_take hf l n, List.take_of_length_le (by rw [hf]; omega)]
abbrev I6 := Int × Int × Int × Int × Int × Int
def I6.seg (x : I6) : Int := x.1
def I6.seq (x : I6) : Int := x.2.1
def I6.count (x : I6) : Int := x.2.2.1
def I6.idx (x : I6) : Int := x.2.2.2.1
def I6.root (x : I6) : Int := x.2.2.2.2.2
theorem encI6_len (x : I6) : (encI6 x).length = 6 := rfl
def wholeB (l : List I6) (c : Int) : Bool := decide (1 ≤ c ∧ c ≤ l.length) && (match l[c.toNat]? with | some x => decide (c ≤ I6.idx x) | none => true) && (List.range c.toNat).all fun i => match l[i]? with | some x => decide (I6.idx x = i) | none => true
theorem scan_whole_val {H : HP} {s : Slc} {l : List I6} {c : Int} (hs : Ent H (rsl 6 s (l.flatMap encI6))) (hl : l.length ≤ 1000000) : Val g H (scan_whole s c) (wholeB l c) := by
  unfold scan_whole
  simp only [Addr.add_add, Nat.reduceAdd]
  refine wps_fact (Ent.trans hs (rsl_len _ _ _)) fun hlen => ?_
  rw [flat_len encI6_len] at hlen
  have hlen : l.length = s.len := by omega
  refine wps_val (v := decide (c < 1 ∨ (s.len : Int) < c)) (wps_ite (fun h => wps_pure (ent_val (by simp at h; simp [h]))) (fun h => wps_pure (ent_val (by simp at h; simp; omega)))) ?_
  refine wps_val (v := decide ((c < 1 ∨ (s.len : Int) < c) ∨ ∃ x, l[c.toNat]? = some x ∧ I6.idx x < c)) ?_ ?_
  · refine wps_ite (fun h => wps_pure (ent_val ?_)) (fun h => ?_)
    · have := of_decide_eq_true h
      rw [decide_eq_true (.inl this)]
    · have h : ¬ (c < 1 ∨ (s.len : Int) < c) := fun e => h (decide_eq_true e)
      refine wps_val (v := decide (∃ x, l[c.toNat]? = some x ∧ I6.idx x < c)) ?_ (wps_pure (ent_val (by simp [h])))
      refine wps_ite (fun h2 => ?_) (fun h2 => wps_pure (ent_val ?_))
      · have h2 := of_decide_eq_true h2
        have hlt : c.toNat < l.length := by omega
        have hget : l[c.toNat]? = some l[c.toNat] := List.getElem?_eq_getElem hlt
        refine wps_rdF (f := 3) c.toNat (I6.idx l[c.toNat]) hs (by omega) (by omega) (by rw [flat_get encI6_len hget (by omega)]; rfl) ?_
        exact wps_pure (ent_val (by simp [hget]))
      · have h2 : ¬ ((s.len : Nat) : Int) > c := fun e => h2 (decide_eq_true e)
        have hnone : l[c.toNat]? = none := List.getElem?_eq_none (by omega)
        simp [hnone]
  refine wps_ite (fun h => wps_pure (ent_val ?_)) (fun h => ?_)
  · have h := of_decide_eq_true h
    unfold wholeB
    rcases h with h | ⟨x, hx, hx2⟩
    · rw [decide_eq_false (by omega)]; rfl
    · rw [hx]
      simp only
      rw [decide_eq_false (show ¬ c ≤ I6.idx x by omega)]
      simp
  have h : ¬ ((c < 1 ∨ (s.len : Int) < c) ∨ ∃ x, l[c.toNat]? = some x ∧ I6.idx x < c) := fun e => h (decide_eq_true e)
  have h1 : 1 ≤ c ∧ c ≤ s.len := by omega
  have h2 : ∀ x, l[c.toNat]? = some x → c ≤ I6.idx x := fun x hx => by
    exact Int.not_lt.1 fun e => h (.inr ⟨x, hx, e⟩)
  refine wps_fact (Ent.trans hs rsl_room) fun hcap => ?_
  have hcap := hcap (by omega)
  have hv : Val g H (sliceM s none (some c) 6) (subS 6 s 0 c.toNat) := sliceM_val rfl (by simp; omega) (Nat.zero_le _) (by omega)
  refine wps_val hv ?_
  have hs2 : Ent H (rsl 6 (subS 6 s 0 c.toNat) ((l.take c.toNat).flatMap encI6)) := Ent.trans hs (Ent.trans (rsl_sub (l := 0) (h := c.toNat) (Nat.zero_le _) (by omega)) (Ent.of_eq (by
    congr 1
    simp only [Nat.zero_mul, List.drop_zero, Nat.sub_zero]
    rw [flat_take encI6_len])))
  have e6 : (subS 6 s 0 c.toNat).len = c.toNat := by simp [subS]
  generalize subS 6 s 0 c.toNat = t at *
  refine wps_loop (fun st => ex fun i : Nat => pr (st = (i : Int) ∧ i ≤ c.toNat ∧ ∀ j x, j < i → l[j]? = some x → I6.idx x = j) * H) (fun st => (c.toNat - st).toNat) (ent_ex 0 (ent_prr ⟨rfl, by omega, fun j x h => by omega⟩ (Ent.refl _))) fun st => ?_
  refine wps_ex fun i => wps_prP fun ⟨hi, hin, hall⟩ => ?_
  rw [emp_star]
  refine wps_ite (fun hc => ?_) (fun hc => ?_)
  · have hlt : i < c.toNat := by simp only [decide_eq_true_eq] at hc; omega
    have hll : i < l.length := by omega
    have hget : l[i]? = some l[i] := List.getElem?_eq_getElem hll
    have hget2 : (l.take c.toNat)[i]? = some l[i] := by rw [List.getElem?_take, if_pos hlt, hget]
    refine wps_rdA i l[i] hs2 hi (by simp) (fun j v hj => ?_) ?_
    · have h5 : j < 6 := by have := (List.getElem?_eq_some_iff.1 hj).1; simpa using this
      rw [flat_get encI6_len hget2 h5]; exact hj
    refine wps_alloc fun x6 => ?_
    refine wps_stA (by simp) (by simp [Value.oneCell']) ?_
    refine wps_ld (I6.idx l[i]) (by rfl) ?_
    refine wps_ite (fun h3 => ?_) (fun h3 => ?_)
    · refine wps_mapR (wps_pure (ent_val ?_))
      have h3 : I6.idx l[i] ≠ i := by rw [hi] at h3; simpa using h3
      unfold wholeB
      have : ((List.range c.toNat).all fun i => match l[i]? with | some x => decide (I6.idx x = i) | none => true) = false := by
        rw [List.all_eq_false]
        refine ⟨i, List.mem_range.2 hlt, ?_⟩
        rw [hget]
        simpa using h3
      rw [this]; simp
    · have h3 : I6.idx l[i] = i := by rw [hi] at h3; simpa using h3
      refine wps_pure (ent_prr (by rw [range_add1 hi (by omega)]; omega) (ent_ex (i + 1) (ent_prr ⟨range_add1 hi (by omega), by omega, fun j x hj hx => ?_⟩ ent_drop)))
      by_cases hji : j = i
      · subst hji; rw [hget] at hx; cases hx; exact h3
      · exact hall j x (by omega) hx
  · have hie : i = c.toNat := by simp only [decide_eq_true_eq] at hc; omega
    refine wps_mapR (wps_pure (ent_val ?_))
    unfold wholeB
    rw [decide_eq_true (show 1 ≤ c ∧ c ≤ l.length by omega)]
    have a1 : (match l[c.toNat]? with | some x => decide (c ≤ I6.idx x) | none => true) = true := by
      split
      · rename_i x hx; exact decide_eq_true (h2 x hx)
      · rfl
    have a2 : ((List.range c.toNat).all fun i => match l[i]? with | some x => decide (I6.idx x = i) | none => true) = true := by
      rw [List.all_eq_true]
      intro j hj
      split
      · rename_i x hx; exact decide_eq_true (hall j x (by rw [hie]; exact List.mem_range.1 hj) hx)
      · rfl
    rw [a1, a2]; rfl
end Go.Proofs.Ytldmeimebebllaa
namespace Go.Proofs.Ytldmeimebebllaa
open Go.Mo
set_option linter.unusedVariables false
variable {g : Fr} {cv : CV}
def lst {κ : Type} : List κ → (κ → HP) → HP
  | [], _ => emp
  | k :: ks, F => F k * lst ks F
theorem lst_congr {κ : Type} {F F' : κ → HP} : ∀ {ks : List κ}, (∀ k ∈ ks, F k = F' k) → lst ks F = lst ks F'
  | [], _ => rfl
  | k :: ks, h => by
    simp only [lst]
    rw [h k (by simp), lst_congr fun k hk => h k (by simp [hk])]
theorem lst_erase {κ : Type} [BEq κ] [LawfulBEq κ] {F : κ → HP} : ∀ {ks : List κ} {k : κ}, k ∈ ks → lst ks F = lst (ks.erase k) F * F k
  | k' :: ks, k, h => by
    rcases Classical.em (k' = k) with hk | hk
    · subst hk
      rw [List.erase_cons_head, lst, star_comm]
    · rw [List.erase_cons_tail (by simpa using hk), lst, lst]
      have : k ∈ ks := by
        rcases List.mem_cons.1 h with h | h
        · exact absurd h.symm hk
        · exact h
      rw [lst_erase this, star_assoc]
def I6.ok (x : I6) : Bool := decide (0 ≤ I6.idx x ∧ I6.idx x ≤ I6.seq x)
def I6.key (x : I6) : Int × Int := (I6.seq x - I6.idx x, I6.count x)
def grp (l : List I6) (k : Int × Int) : List I6 := l.filter fun x => I6.ok x && decide (I6.key x = k)
structure KsOk (l : List I6) (ks : List (Int × Int)) : Prop where
  nodup : ks.Nodup
  mem : ∀ k, k ∈ ks ↔ ∃ x ∈ l, I6.ok x = true ∧ I6.key x = k
  few : ks.length ≤ l.length
theorem grp_out {l : List I6} {x : I6} {k : Int × Int} (h : ¬ (I6.ok x = true ∧ I6.key x = k)) : grp (l ++ [x]) k = grp l k := by
  unfold grp
  rw [List.filter_append]
  have : (I6.ok x && decide (I6.key x = k)) = false := by
    cases ho : I6.ok x with
    | false => rfl
    | true => simpa [ho] using h
  simp [this]
theorem grp_in {l : List I6} {x : I6} (h : I6.ok x = true) : grp (l ++ [x]) (I6.key x) = grp l (I6.key x) ++ [x] := by
  unfold grp
  rw [List.filter_append]
  simp [h]
theorem KsOk.out {l : List I6} {x : I6} {ks : List (Int × Int)} (h : KsOk l ks) (hx : I6.ok x = true → I6.key x ∈ ks) : KsOk (l ++ [x]) ks := ⟨h.nodup, fun k => by
  rw [h.mem]
  constructor
  · rintro ⟨y, hy, h1⟩; exact ⟨y, by simp [hy], h1⟩
  · rintro ⟨y, hy, h1, h2⟩
    rcases List.mem_append.1 hy with hy | hy
    · exact ⟨y, hy, h1, h2⟩
    · have : y = x := by simpa using hy
      subst this
      rw [← h2]
      exact (h.mem _).1 (hx h1), by have := h.few; simp; omega⟩
theorem KsOk.new {l : List I6} {x : I6} {ks : List (Int × Int)} (h : KsOk l ks) (hx : I6.ok x = true) (hn : I6.key x ∉ ks) : KsOk (l ++ [x]) (I6.key x :: ks) := ⟨List.nodup_cons.2 ⟨hn, h.nodup⟩, fun k => by
  rw [List.mem_cons, h.mem]
  constructor
  · rintro (rfl | ⟨y, hy, h1⟩)
    · exact ⟨x, by simp, hx, rfl⟩
    · exact ⟨y, by simp [hy], h1⟩
  · rintro ⟨y, hy, h1, h2⟩
    rcases List.mem_append.1 hy with hy | hy
    · exact .inr ⟨y, hy, h1, h2⟩
    · have : y = x := by simpa using hy
      subst this
      exact .inl h2.symm, by have := h.few; simp; omega⟩
theorem grp_nil {l : List I6} {ks : List (Int × Int)} {k : Int × Int} (h : KsOk l ks) (hk : k ∉ ks) : grp l k = [] := by
  unfold grp
  rw [List.filter_eq_nil_iff]
  intro x hx hc
  simp only [Bool.and_eq_true, decide_eq_true_eq] at hc
  exact hk ((h.mem k).2 ⟨x, hx, hc.1, hc.2⟩)
theorem grp_len (l : List I6) (k : Int × Int) : (grp l k).length ≤ l.length := List.length_filter_le _ _
def mapF (ks : List (Int × Int)) (slf : Int × Int → Slc) : Int × Int → Option Value := fun k => if k ∈ ks then some (vS (slf k)) else none
def upS (slf : Int × Int → Slc) (k : Int × Int) (s : Slc) : Int × Int → Slc := fun j => if j = k then s else slf j
theorem mapF_old {ks : List (Int × Int)} {slf : Int × Int → Slc} {k : Int × Int} {s : Slc} (h : k ∈ ks) : (fun i => if i = k then some (vS s) else if i = k then some (vS (slf k)) else mapF ks slf i) = mapF ks (upS slf k s) := by
  funext i
  unfold mapF upS
  by_cases hi : i = k
  · subst hi; simp [h]
  · simp [hi]
theorem mapF_new {ks : List (Int × Int)} {slf : Int × Int → Slc} {k : Int × Int} {s s0 : Slc} : (fun i => if i = k then some (vS s) else if i = k then some (vS s0) else mapF ks slf i) = mapF (k :: ks) (upS slf k s) := by
  funext i
  unfold mapF upS
  by_cases hi : i = k
  · subst hi; simp
  · simp [hi]
def heldP (l : List I6) (ks : List (Int × Int)) (slf : Int × Int → Slc) : HP := lst ks fun k => own 6 (slf k) ((grp l k).flatMap encI6)
theorem held_out {l : List I6} {x : I6} {ks : List (Int × Int)} {slf : Int × Int → Slc} (h : I6.ok x = false) : heldP (l ++ [x]) ks slf = heldP l ks slf := lst_congr fun k _ => by rw [grp_out (fun e => by rw [h] at e; cases e.1)]
def restP (l : List I6) (ks : List (Int × Int)) (k : Int × Int) (slf : Int × Int → Slc) : HP := lst (ks.erase k) fun k => own 6 (slf k) ((grp l k).flatMap encI6)
theorem held_open {l : List I6} {ks : List (Int × Int)} {k : Int × Int} {slf : Int × Int → Slc} (h : k ∈ ks) : heldP l ks slf = restP l ks k slf * own 6 (slf k) ((grp l k).flatMap encI6) := lst_erase (F := fun k => own 6 (slf k) ((grp l k).flatMap encI6)) h
theorem rest_put {l : List I6} {x : I6} {ks : List (Int × Int)} {slf : Int × Int → Slc} {s : Slc} (hn : ks.Nodup) : restP (l ++ [x]) ks (I6.key x) (upS slf (I6.key x) s) = restP l ks (I6.key x) slf := lst_congr fun k hk => by
  have hne : k ≠ I6.key x := fun e => by subst e; exact (hn.not_mem_erase hk)
  rw [grp_out (fun e => hne e.2.symm)]
  simp [upS, hne]
theorem held_close {l : List I6} {x : I6} {ks : List (Int × Int)} {slf : Int × Int → Slc} {s : Slc} (hx : I6.ok x = true) (hn : ks.Nodup) (h : I6.key x ∈ ks) : heldP (l ++ [x]) ks (upS slf (I6.key x) s) = restP l ks (I6.key x) slf * own 6 s ((grp l (I6.key x)).flatMap encI6 ++ encI6 x) := by
  rw [held_open h, rest_put hn, grp_in hx]
  simp [upS]
theorem held_new {l : List I6} {x : I6} {ks : List (Int × Int)} {slf : Int × Int → Slc} {s : Slc} (hx : I6.ok x = true) (hk : KsOk l ks) (h : I6.key x ∉ ks) : heldP (l ++ [x]) (I6.key x :: ks) (upS slf (I6.key x) s) = heldP l ks slf * own 6 s (encI6 x) := by
  unfold heldP
  rw [lst, star_comm]
  congr 1
  · refine lst_congr fun k hk' => ?_
    have hne : k ≠ I6.key x := fun e => by subst e; exact h hk'
    rw [grp_out (fun e => hne e.2.symm)]
    simp [upS, hne]
  · rw [grp_in hx, grp_nil hk h]
    simp [upS]
end Go.Proofs.Ytldmeimebebllaa
namespace Go.Proofs.Ytldmeimebebllaa
open Go.Mo
set_option linter.unusedVariables false
variable {g : Fr} {cv : CV}
def infosP (s : Slc) (l : List I6) : HP := pr (∀ x ∈ l, I6.seq x < 9223372036854775808) * rsl 6 s (l.flatMap encI6)
theorem infosP_rsl (s : Slc) (l : List I6) : Ent (infosP s l) (rsl 6 s (l.flatMap encI6)) := ent_right _ _
theorem infosP_seq (s : Slc) (l : List I6) : Ent (infosP s l) (pr (∀ x ∈ l, I6.seq x < 9223372036854775808)) := ent_left _ _
theorem infosP_len (s : Slc) (l : List I6) : Ent (infosP s l) (pr (l.length = s.len)) := Ent.trans (infosP_rsl s l) (Ent.trans (rsl_len _ _ _) fun o ho => by
  have : (l.flatMap encI6).length = s.len * 6 := ho
  rw [flat_len encI6_len] at this
  show l.length = s.len
  omega)
theorem ent_pr3 {p : Prop} {A B C F : HP} (hp : p) (h : Ent F (A * B * C)) : Ent F (pr p * A * B * C) := Ent.trans h (Ent.trans (ent_pr hp) (Ent.of_eq (by simp only [star_assoc])))
theorem ent_pr4 {p : Prop} {A B C D F : HP} (hp : p) (h : Ent F (A * B * C * D)) : Ent F (pr p * A * B * C * D) := Ent.trans h (Ent.trans (ent_pr hp) (Ent.of_eq (by simp only [star_assoc])))
theorem groups_first {s : Slc} {l : List I6} (hl : l.length ≤ 100000) {Q : Slc → HP} {K : Nat → M Slc}
    (hK : ∀ m ks slf, KsOk l ks → wps g (infosP s l * pmap m (mapF ks slf) * heldP l ks slf) (K m) Q) :
    wps g (infosP s l) (bindM (newO (.map #[] 0)) fun x13 =>
  loopM (fun (s1 : (Int)) =>
  (if (decide (s1 < ((s.len : Nat) : Int))) = true then
    bindM (idxM s s1 6) fun x18 =>
      bindM (ldA (fun y : (Int × Int × Int × Int × Int × Int) => [(.int .i64 y.1), (.int .i64 y.2.1), (.int .i64 y.2.2.1), (.int .i64 y.2.2.2.1), (.int .i64 y.2.2.2.2.1), (.int .i64 y.2.2.2.2.2)]) x18) fun x19 =>
      bindM (allocM [(.int .i64 0), (.int .i64 0), (.int .i64 0), (.int .i64 0), (.int .i64 0), (.int .i64 0)]) fun x5 =>
      bindM (stA x5 [(.int .i64 x19.1), (.int .i64 x19.2.1), (.int .i64 x19.2.2.1), (.int .i64 x19.2.2.2.1), (.int .i64 x19.2.2.2.2.1), (.int .i64 x19.2.2.2.2.2)]) fun _ =>
      bindM (ld (Value.int .i64) (Addr.add x5 3)) fun x22 =>
      bindM (if (decide (x22 ≥ 0)) = true then
        bindM (ld (Value.int .i64) (Addr.add x5 1)) fun x26 =>
          bindM (ld (Value.int .i64) (Addr.add x5 3)) fun x29 =>
          pureM (decide (x26 ≥ x29))
      else
        pureM false) fun r2 =>
      (if (r2) = true then
      bindM (ld (Value.int .i64) (Addr.add x5 1)) fun x33 =>
        bindM (ld (Value.int .i64) (Addr.add x5 3)) fun x36 =>
        bindM (ld (Value.int .i64) (Addr.add x5 2)) fun x40 =>
        bindM (allocM [(.int .i64 0), (.int .i64 0)]) fun x6 =>
        bindM (stA x6 [(.int .i64 (w64 (x33 - x36))), (.int .i64 x40)]) fun _ =>
        bindM (ldA (fun y : (Int × Int) => [(.int .i64 y.1), (.int .i64 y.2)]) x6) fun x43 =>
        bindM (ldA (fun y : (Int × Int × Int × Int × Int × Int) => [(.int .i64 y.1), (.int .i64 y.2.1), (.int .i64 y.2.2.1), (.int .i64 y.2.2.2.1), (.int .i64 y.2.2.2.2.1), (.int .i64 y.2.2.2.2.2)]) x5) fun x45 =>
        bindM (allocM [(.int .i64 x45.1), (.int .i64 x45.2.1), (.int .i64 x45.2.2.1), (.int .i64 x45.2.2.2.1), (.int .i64 x45.2.2.2.2.1), (.int .i64 x45.2.2.2.2.2)]) fun x46 =>
        bindM (entM vS (⟨none, 0, 0⟩) (some x13) (x43.1, x43.2)) fun x47 =>
        bindM (appendM [(.int .i64 0), (.int .i64 0), (.int .i64 0), (.int .i64 0), (.int .i64 0), (.int .i64 0)] 48 x47.1 ⟨some x46, 1, 1⟩) fun x48 =>
        bindM (entStM (some x13) x47.2 (.slice x48.base x48.len x48.cap)) fun _ =>
        pureM (.inl (w64 (s1 + 1)))
      else
      pureM (.inl (w64 (s1 + 1))))
    else
    mapR (K x13))) 0) Q := by
  refine wps_fact (infosP_len s l) fun hlen => ?_
  refine wps_fact (infosP_seq s l) fun hseq => ?_
  refine wps_newO fun m => ?_
  refine wps_pre (H' := infosP s l * pmap m (mapF [] fun _ => ⟨none, 0, 0⟩)) (Ent.starr (Ent.trans (pmap_new m) (Ent.of_eq (by congr 1)))) ?_
  refine wps_loop (fun st => ex fun i : Nat => ex fun ks : List (Int × Int) => ex fun slf : Int × Int → Slc => pr (st = (i : Int) ∧ i ≤ l.length ∧ KsOk (l.take i) ks ∧ ∀ k, (slf k).len ≤ i) * infosP s l * pmap m (mapF ks slf) * heldP (l.take i) ks slf) (fun st => (l.length - st).toNat) ?_ fun st => ?_
  · refine ent_ex 0 (ent_ex [] (ent_ex (fun _ => ⟨none, 0, 0⟩) ?_))
    have h0 : heldP (l.take 0) [] (fun _ => ⟨none, 0, 0⟩) = emp := rfl
    rw [h0, star_emp]
    refine Ent.trans (ent_pr (p := (0 : Int) = ((0 : Nat) : Int) ∧ 0 ≤ l.length ∧ KsOk (l.take 0) [] ∧ ∀ k : Int × Int, ((fun _ => ⟨none, 0, 0⟩ : Int × Int → Slc) k).len ≤ 0) ⟨rfl, by omega, ⟨List.nodup_nil, fun k => by simp, by simp⟩, fun k => Nat.le_refl _⟩) (Ent.of_eq ?_)
    simp only [star_assoc]
  refine wps_ex fun i => wps_ex fun ks => wps_ex fun slf => wps_prP fun ⟨hi, hin, hks, hsl⟩ => ?_
  refine wps_ite (fun hc => ?_) (fun hc => ?_)
  · have hlt : i < l.length := by simp only [decide_eq_true_eq] at hc; omega
    have hget : l[i]? = some l[i] := List.getElem?_eq_getElem hlt
    have htk : l.take (i + 1) = l.take i ++ [l[i]] := by rw [List.take_add_one, hget]; rfl
    refine wps_rdA i l[i] (Ent.trans (ent_pick1 (A := infosP s l)) (infosP_rsl s l)) hi (by simp) (fun j v hj => ?_) ?_
    · have h5 : j < 6 := by have := (List.getElem?_eq_some_iff.1 hj).1; simpa using this
      rw [flat_get encI6_len hget h5]; exact hj
    have hsq := hseq _ (List.getElem_mem hlt)
    refine wps_alloc fun x5 => ?_
    refine wps_stA (by simp) (by simp [Value.oneCell']) ?_
    refine wps_ld (I6.idx l[i]) (by rfl) ?_
    refine wps_val (v := I6.ok l[i]) ?_ ?_
    · refine wps_ite (fun h => wps_ld (I6.seq l[i]) (by rfl) (wps_ld (I6.idx l[i]) (by rfl) (wps_pure (ent_val ?_)))) (fun h => wps_pure (ent_val ?_))
      · have h : I6.idx l[i] ≥ 0 := of_decide_eq_true h
        simp [I6.ok, h]
      · have h : ¬ I6.idx l[i] ≥ 0 := fun e => h (decide_eq_true e)
        simp [I6.ok]; omega
    refine wps_ite (fun hok => ?_) (fun hok => ?_)
    · have hok2 : 0 ≤ I6.idx l[i] ∧ I6.idx l[i] ≤ I6.seq l[i] := of_decide_eq_true hok
      refine wps_ld (I6.seq l[i]) (by rfl) ?_
      refine wps_ld (I6.idx l[i]) (by rfl) ?_
      refine wps_ld (I6.count l[i]) (by rfl) ?_
      rw [w64_id (by omega) (by omega)]
      refine wps_alloc fun x6 => ?_
      refine wps_stA (by simp) (by simp [Value.oneCell']) ?_
      refine wps_ldA (I6.key l[i]) (by rfl) ?_
      refine wps_ldA l[i] (by rfl) ?_
      refine wps_alloc fun x46 => ?_
      have hrg : w64 (st + 1) = ((i + 1 : Nat) : Int) := range_add1 hi (by omega)
      by_cases hk : I6.key l[i] ∈ ks
      · refine wps_pre (H' := infosP s l * restP (l.take i) ks (I6.key l[i]) slf * own 6 (slf (I6.key l[i])) ((grp (l.take i) (I6.key l[i])).flatMap encI6) * pc x46 (encI6 l[i]) * pmap m (mapF ks slf)) ?_ ?_
        · rw [held_open hk]
          simp only [← star_assoc]
          repeat (first
            | (with_reducible exact ent_drop)
            | (with_reducible refine ent_pick ?_)
            | (refine ent_pickC (by rfl) ?_)
            | (refine ent_pickS (by rfl) ?_)
            | (refine ent_pickM (by rfl) ?_)
            | (refine ent_prx ?_ ?_; rotate_left)
            | (refine ent_prq ?_))
        refine wps_ent (H' := infosP s l * restP (l.take i) ks (I6.key l[i]) slf * own 6 (slf (I6.key l[i])) ((grp (l.take i) (I6.key l[i])).flatMap encI6) * pc x46 (encI6 l[i])) (some (slf (I6.key l[i]))) rfl (by simp [mapF, hk]) fun stp => ?_
        simp only [Option.getD_some]
        refine wps_app 6 (encI6 l[i]) rfl (by decide) (Ent.trans (ent_pick1 (A := pc x46 (encI6 l[i]))) (rsl_pc rfl)) (by simp [encI6, Value.oneCell']) (by have := hsl (I6.key l[i]); show (16 * ((slf (I6.key l[i])).len + 1) + 4096) * 48 ≤ 2 ^ 48; omega) fun s2 hs2 => ?_
        refine wps_pre (H' := infosP s l * restP (l.take i) ks (I6.key l[i]) slf * own 6 s2 ((grp (l.take i) (I6.key l[i])).flatMap encI6 ++ encI6 l[i]) * pmapAt m (fun j => if j = I6.key l[i] then some (vS (slf (I6.key l[i]))) else mapF ks slf j) (I6.key l[i]) stp) ?_ ?_
        · repeat (first
            | (with_reducible exact ent_drop)
            | (with_reducible refine ent_pick ?_)
            | (refine ent_pickC (by rfl) ?_)
            | (refine ent_pickS (by rfl) ?_)
            | (refine ent_pickM (by rfl) ?_)
            | (refine ent_prx ?_ ?_; rotate_left)
            | (refine ent_prq ?_))
        refine wps_entSt rfl ?_
        rw [show Value.slice s2.base s2.len s2.cap = vS s2 from rfl, mapF_old hk]
        refine wps_pure (ent_prr (by rw [hrg]; omega) (ent_ex (i + 1) (ent_ex ks (ent_ex (upS slf (I6.key l[i]) s2) ?_))))
        rw [htk, held_close hok hks.nodup hk]
        simp only [← star_assoc]
        have hs3 : ∀ k, (upS slf (I6.key l[i]) s2 k).len ≤ i + 1 := fun k => by
          unfold upS
          split
          · have := hsl (I6.key l[i]); rw [hs2]; show _ + 1 ≤ _; omega
          · have := hsl k; omega
        refine ent_pr4 ⟨hrg, by omega, hks.out fun _ => hk, hs3⟩ ?_
        repeat (first
          | (with_reducible exact ent_drop)
          | (with_reducible refine ent_pick ?_)
          | (refine ent_pickC (by rfl) ?_)
          | (refine ent_pickS (by rfl) ?_)
          | (refine ent_pickM (by rfl) ?_)
          | (refine ent_prx ?_ ?_; rotate_left)
          | (refine ent_prq ?_))
      · refine wps_pre (H' := infosP s l * heldP (l.take i) ks slf * own 6 ⟨none, 0, 0⟩ [] * pc x46 (encI6 l[i]) * pmap m (mapF ks slf)) ?_ ?_
        · refine Ent.trans (ent_own0 (z := 6) (Ent.refl _)) ?_
          repeat (first
            | (with_reducible exact ent_drop)
            | (with_reducible refine ent_pick ?_)
            | (refine ent_pickC (by rfl) ?_)
            | (refine ent_pickS (by rfl) ?_)
            | (refine ent_pickM (by rfl) ?_)
            | (refine ent_prx ?_ ?_; rotate_left)
            | (refine ent_prq ?_))
        refine wps_ent (H' := infosP s l * heldP (l.take i) ks slf * own 6 ⟨none, 0, 0⟩ [] * pc x46 (encI6 l[i])) none rfl (by simp [mapF, hk]) fun stp => ?_
        simp only [Option.getD_none]
        refine wps_app 6 (encI6 l[i]) rfl (by decide) (Ent.trans (ent_pick1 (A := pc x46 (encI6 l[i]))) (rsl_pc rfl)) (by simp [encI6, Value.oneCell']) (show (16 * (0 + 1) + 4096) * 48 ≤ 2 ^ 48 by decide) fun s2 hs2 => ?_
        refine wps_pre (H' := infosP s l * heldP (l.take i) ks slf * own 6 s2 ([] ++ encI6 l[i]) * pmapAt m (fun j => if j = I6.key l[i] then some (vS ⟨none, 0, 0⟩) else mapF ks slf j) (I6.key l[i]) stp) ?_ ?_
        · repeat (first
            | (with_reducible exact ent_drop)
            | (with_reducible refine ent_pick ?_)
            | (refine ent_pickC (by rfl) ?_)
            | (refine ent_pickS (by rfl) ?_)
            | (refine ent_pickM (by rfl) ?_)
            | (refine ent_prx ?_ ?_; rotate_left)
            | (refine ent_prq ?_))
        refine wps_entSt rfl ?_
        rw [show Value.slice s2.base s2.len s2.cap = vS s2 from rfl, mapF_new, List.nil_append]
        refine wps_pure (ent_prr (by rw [hrg]; omega) (ent_ex (i + 1) (ent_ex (I6.key l[i] :: ks) (ent_ex (upS slf (I6.key l[i]) s2) ?_))))
        rw [htk, held_new hok hks hk]
        simp only [← star_assoc]
        have hs3 : ∀ k, (upS slf (I6.key l[i]) s2 k).len ≤ i + 1 := fun k => by
          unfold upS
          split
          · rw [hs2]; show 0 + 1 ≤ _; omega
          · have := hsl k; omega
        refine ent_pr4 ⟨hrg, by omega, hks.new hok hk, hs3⟩ ?_
        repeat (first
          | (with_reducible exact ent_drop)
          | (with_reducible refine ent_pick ?_)
          | (refine ent_pickC (by rfl) ?_)
          | (refine ent_pickS (by rfl) ?_)
          | (refine ent_pickM (by rfl) ?_)
          | (refine ent_prx ?_ ?_; rotate_left)
          | (refine ent_prq ?_))
    · have hrg : w64 (st + 1) = ((i + 1 : Nat) : Int) := range_add1 hi (by omega)
      have hok : I6.ok l[i] = false := by simpa using hok
      refine wps_pure (ent_prr (by rw [hrg]; omega) (ent_ex (i + 1) (ent_ex ks (ent_ex slf ?_))))
      rw [htk, held_out hok]
      refine ent_pr3 ⟨hrg, by omega, hks.out (fun h => by rw [hok] at h; cases h), fun k => by have := hsl k; omega⟩ ?_
      repeat (first
        | (with_reducible exact ent_drop)
        | (with_reducible refine ent_pick ?_)
        | (refine ent_pickC (by rfl) ?_)
        | (refine ent_pickS (by rfl) ?_)
        | (refine ent_pickM (by rfl) ?_)
        | (refine ent_prx ?_ ?_; rotate_left)
        | (refine ent_prq ?_))
  · have hie : i = l.length := by simp only [decide_eq_true_eq] at hc; omega
    have htl : l.take i = l := by rw [hie, List.take_length]
    rw [htl] at hks ⊢
    refine wps_mapR (wps_pre ?_ (hK m ks slf hks))
    repeat (first
      | (with_reducible exact ent_drop)
      | (with_reducible refine ent_pick ?_)
      | (refine ent_pickC (by rfl) ?_)
      | (refine ent_pickS (by rfl) ?_)
      | (refine ent_pickM (by rfl) ?_)
      | (refine ent_prx ?_ ?_; rotate_left)
      | (refine ent_prq ?_))
end Go.Proofs.Ytldmeimebebllaa
namespace Go.Proofs.Ytldmeimebebllaa
open Go.Mo
set_option linter.unusedVariables false
variable {g : Fr} {cv : CV}
def cnt (l : List I6) (i : Nat) : Nat := l.countP fun x => decide (I6.idx x = (i : Int))
theorem cnt_perm {l l' : List I6} (h : l.Perm l') (i : Nat) : cnt l i = cnt l' i := h.countP_eq _
theorem cnt_two {l : List I6} {p q i : Nat} {x y : I6} (hp : l[p]? = some x) (hq : l[q]? = some y) (hlt : p < q) (hx : I6.idx x = i) (hy : I6.idx y = i) : 2 ≤ cnt l i := by
  have h1 : 0 < cnt (l.take q) i := List.countP_pos_iff.2 ⟨x, List.mem_of_getElem? (i := p) (by rw [List.getElem?_take, if_pos hlt]; exact hp), by simpa using hx⟩
  have h2 : 0 < cnt (l.drop q) i := List.countP_pos_iff.2 ⟨y, List.mem_of_getElem? (i := 0) (by rw [List.getElem?_drop]; simpa using hq), by simpa using hy⟩
  have h3 : cnt l i = cnt (l.take q) i + cnt (l.drop q) i := by
    unfold cnt
    rw [← List.countP_append, List.take_append_drop]
  omega
def wholeC (l : List I6) (c : Int) : Bool := decide (1 ≤ c) && (List.range c.toNat).all fun i => cnt l i == 1
theorem sorted_le {l : List I6} (h : SortedF cf_scan_Groups_c1 l) {p q : Nat} {x y : I6} (hp : l[p]? = some x) (hq : l[q]? = some y) (hlt : p < q) : I6.idx x ≤ I6.idx y := by
  unfold SortedF at h
  rw [List.pairwise_iff_getElem] at h
  obtain ⟨h1, rfl⟩ := List.getElem?_eq_some_iff.1 hp
  obtain ⟨h2, rfl⟩ := List.getElem?_eq_some_iff.1 hq
  have := h p q h1 h2 hlt
  rw [lt_c1] at this
  exact Int.not_lt.1 (of_decide_eq_false this)
theorem sorted_first {l : List I6} (h : SortedF cf_scan_Groups_c1 l) (h0 : ∀ x ∈ l, 0 ≤ I6.idx x) : ∀ c : Nat, (∀ i, i < c → cnt l i = 1) → c ≤ l.length ∧ (∀ j x, j < c → l[j]? = some x → I6.idx x = j) ∧ ∀ x, l[c]? = some x → (c : Int) ≤ I6.idx x
  | 0, _ => ⟨Nat.zero_le _, fun j x hj => by omega, fun x hx => h0 x (List.mem_of_getElem? hx)⟩
  | c + 1, hc => by
    obtain ⟨h1, h2, h3⟩ := sorted_first h h0 c fun i hi => hc i (by omega)
    have hcc := hc c (by omega)
    obtain ⟨y, hy, hyc⟩ := List.countP_pos_iff.1 (show 0 < cnt l c by omega)
    have hyc : I6.idx y = c := of_decide_eq_true hyc
    obtain ⟨p, hp⟩ := List.mem_iff_getElem?.1 hy
    have hpc : c ≤ p := by
      apply Classical.byContradiction
      intro hn
      have := h2 p y (by omega) hp
      omega
    have hpl := (List.getElem?_eq_some_iff.1 hp).1
    have hcl : c < l.length := by omega
    have hgc : l[c]? = some l[c] := List.getElem?_eq_getElem hcl
    have hidx : I6.idx l[c] = c := by
      have a := h3 _ hgc
      rcases Nat.lt_or_ge c p with hlt | hge
      · have := sorted_le h hgc hp hlt; omega
      · have : p = c := by omega
        subst this
        rw [hp] at hgc
        rw [← Option.some.inj hgc]; exact hyc
    refine ⟨by omega, fun j x hj hx => ?_, fun x hx => ?_⟩
    · by_cases hjc : j = c
      · subst hjc; rw [hgc] at hx; rw [← Option.some.inj hx]; exact hidx
      · exact h2 j x (by omega) hx
    · have a := sorted_le h hgc hx (by omega)
      have b : I6.idx x ≠ (c : Int) := fun e => by
        have := cnt_two hgc hx (Nat.lt_succ_self c) hidx e
        omega
      omega
theorem whole_iff {l l' : List I6} (hp : l'.Perm l) (h : SortedF cf_scan_Groups_c1 l') (h0 : ∀ x ∈ l, 0 ≤ I6.idx x) (c : Int) : wholeB l' c = wholeC l c := by
  rw [Bool.eq_iff_iff]
  unfold wholeB wholeC
  simp only [Bool.and_eq_true, decide_eq_true_eq, List.all_eq_true, List.mem_range, beq_iff_eq]
  constructor
  · rintro ⟨⟨⟨h1, h2⟩, h3⟩, h4⟩
    refine ⟨h1, fun i hi => ?_⟩
    rw [← cnt_perm hp]
    have hil : i < l'.length := by omega
    have hgi : l'[i]? = some l'[i] := List.getElem?_eq_getElem hil
    have hx : I6.idx l'[i] = i := by have := h4 i hi; rw [hgi] at this; exact of_decide_eq_true this
    have hpos : 0 < cnt l' i := List.countP_pos_iff.2 ⟨l'[i], List.getElem_mem hil, by simpa using hx⟩
    apply Classical.byContradiction
    intro hne
    have h2c : 2 ≤ cnt l' i := by omega
    -- another place
    have hsplit : cnt l' i = cnt (l'.take i) i + (cnt [l'[i]] i + cnt (l'.drop (i + 1)) i) := by
      unfold cnt
      rw [← List.countP_append, ← List.countP_append]
      congr 1
      rw [List.singleton_append, ← List.drop_eq_getElem_cons hil, List.take_append_drop]
    have hone : cnt [l'[i]] i = 1 := by simp [cnt, hx]
    rcases Nat.eq_zero_or_pos (cnt (l'.take i) i) with h5 | h5
    · obtain ⟨y, hy, hyi⟩ := List.countP_pos_iff.1 (show 0 < cnt (l'.drop (i + 1)) i by omega)
      have hyi : I6.idx y = i := of_decide_eq_true hyi
      obtain ⟨q, hq⟩ := List.mem_iff_getElem?.1 hy
      rw [List.getElem?_drop] at hq
      by_cases hqc : i + 1 + q < c.toNat
      · have := h4 _ hqc; rw [hq] at this; have := of_decide_eq_true this; omega
      · have hlc : c.toNat < l'.length ∨ c.toNat = l'.length := by omega
        have hql := (List.getElem?_eq_some_iff.1 hq).1
        have hcl : c.toNat < l'.length := by omega
        have hgc : l'[c.toNat]? = some l'[c.toNat] := List.getElem?_eq_getElem hcl
        rw [hgc] at h3
        have h3 : c ≤ I6.idx l'[c.toNat] := of_decide_eq_true h3
        rcases Nat.lt_or_ge c.toNat (i + 1 + q) with hlt | hge
        · have := sorted_le h hgc hq hlt; omega
        · have he : i + 1 + q = c.toNat := by omega
          rw [he, hgc] at hq
          have := Option.some.inj hq
          subst this
          omega
    · obtain ⟨y, hy, hyi⟩ := List.countP_pos_iff.1 h5
      have hyi : I6.idx y = i := of_decide_eq_true hyi
      obtain ⟨q, hq⟩ := List.mem_iff_getElem?.1 hy
      rw [List.getElem?_take] at hq
      split at hq
      · rename_i hqi
        have := h4 q (by omega); rw [hq] at this; have := of_decide_eq_true this; omega
      · cases hq
  · rintro ⟨h1, h2⟩
    obtain ⟨a1, a2, a3⟩ := sorted_first h (fun x hx => h0 x (hp.mem_iff.1 hx)) c.toNat fun i hi => by rw [cnt_perm hp]; exact h2 i hi
    refine ⟨⟨⟨h1, by omega⟩, ?_⟩, fun i hi => ?_⟩
    · split
      · rename_i x hx; have := a3 x hx; exact decide_eq_true (by omega)
      · rfl
    · split
      · rename_i x hx; exact decide_eq_true (a2 i x hi hx)
      · rfl
end Go.Proofs.Ytldmeimebebllaa
namespace Go.Proofs.Ytldmeimebebllaa
open Go.Mo
set_option linter.unusedVariables false
variable {g : Fr} {cv : CV}
def everyL (s : Int) (b : List Int) : List Int → Rk → Int → Rk × Int
  | [], R, wr => (R, wr)
  | d :: ds, R, wr => if R.gate d s b.length = 12 then (R.write d s b, 12) else everyL s b ds (R.write d s b) (if R.gate d s b.length = 11 then 11 else wr)
end Go.Proofs.Ytldmeimebebllaa

namespace Go.Proofs.Ytldmeimebebllaa
open Go.Mo
set_option linter.unusedVariables false
structure Calm (R : Rk) : Prop where
  off : R.off = false
  count : R.count = -1
  failed : ∀ j, (R.dk j).failed = false
  counts : ∀ j, (R.dk j).count = -1
theorem w64m2 : w64 (-1 - 1) = -2 := w64_id (by omega) (by omega)
theorem Calm.tick {R : Rk} (h : Calm R) : R.ticked = R := by
  obtain ⟨n, ns, dk, count, off⟩ := R
  obtain ⟨h1, h2, h3, h4⟩ := h
  simp only at h1 h2 h3 h4
  subst h1 h2
  have hm : maxI (w64 (-1 - 1)) (-1) = -1 := by rw [w64m2]; rfl
  have hdk : (fun j => (dk j).tick) = dk := by
    funext j
    have a := h3 j
    have b := h4 j
    cases hd : dk j with
    | mk l c f k =>
      rw [hd] at a b
      simp only at a b
      subst a b
      simp only [Dk.tick, hm]
      rfl
  simp only [Rk.ticked, hm, hdk]
  rfl
theorem Calm.new (n s : Nat) : Calm (Rk.new n s) := ⟨rfl, rfl, fun _ => rfl, fun _ => rfl⟩
theorem Calm.gate {R : Rk} (h : Calm R) {k s : Int} (hk : 0 ≤ k ∧ k < R.n) (hs : 0 ≤ s ∧ s < R.ns) : R.gate k s 64 = 0 := by
  unfold Rk.gate
  have hr : ¬ (k < 0 ∨ k ≥ R.n ∨ s < 0 ∨ s ≥ R.ns) := by omega
  rw [if_neg (by simp [h.off]), if_neg hr, if_neg (by omega), if_neg (by rw [h.count]; omega), h.tick, if_neg (by simp [h.failed])]
theorem Calm.put {R : Rk} (h : Calm R) (k s : Int) (b : List Int) : Calm (R.put k s b) := by
  refine ⟨h.off, h.count, fun j => ?_, fun j => ?_⟩
  · simp only [Rk.put]; split
    · exact h.failed j
    · exact h.failed j
  · simp only [Rk.put]; split
    · exact h.counts j
    · exact h.counts j
theorem Calm.write {R : Rk} (h : Calm R) {k s : Int} {b : List Int} (hk : 0 ≤ k ∧ k < R.n) (hs : 0 ≤ s ∧ s < R.ns) (hb : b.length = 64) : R.gate k s b.length = 0 ∧ R.write k s b = R.put k s b := by
  have hg : R.gate k s b.length = 0 := by rw [hb]; exact h.gate hk hs
  obtain ⟨_, _, _, _, hgd⟩ := gate_ok hg
  exact ⟨hg, by rw [Rk.write, if_pos hg, hgd, h.tick]⟩
theorem Calm.rdErr {R : Rk} (h : Calm R) {k s : Int} (hk : 0 ≤ k ∧ k < R.n) (hs : 0 ≤ s ∧ s < R.ns) : R.rdErr k s = 0 := by
  unfold Rk.rdErr
  have hr : ¬ (k < 0 ∨ k ≥ R.n ∨ s < 0 ∨ s ≥ R.ns) := by omega
  rw [if_neg (by simp [h.off]), if_neg hr, if_neg (by simp [h.failed])]
theorem Calm.rd {R : Rk} (h : Calm R) {k s : Int} (hk : 0 ≤ k ∧ k < R.n) (hs : 0 ≤ s ∧ s < R.ns) : R.rd k s = (R.dk k.toNat).sec s := by
  rw [Rk.rd, if_pos (h.rdErr hk hs)]
theorem put_sec (R : Rk) (k s : Int) (b : List Int) (j : Nat) (i : Int) : ((R.put k s b).dk j).sec i = if j = k.toNat ∧ i = s then b else (R.dk j).sec i := by
  simp only [Rk.put]
  by_cases hj : j = k.toNat
  · by_cases hi : i = s
    · simp [hj, hi, Dk.sec]
    · simp [hj, hi, Dk.sec]
  · simp [hj]
theorem Calm.every {s : Int} {b : List Int} : ∀ {xs : List Int} {R : Rk}, Calm R → (∀ d ∈ xs, 0 ≤ d ∧ d < R.n) → 0 ≤ s ∧ s < R.ns → b.length = 64 → everyL s b xs R 0 = (xs.foldl (fun R d => R.put d s b) R, 0)
  | [], R, _, _, _, _ => rfl
  | d :: xs, R, h, hx, hs, hb => by
    have hw := h.write (hx d (by simp)) hs hb
    simp only [everyL, hw.1, hw.2]
    rw [if_neg (by omega), if_neg (by omega)]
    exact Calm.every (h.put d s b) (fun d' hd' => hx d' (by simp [hd'])) hs hb
end Go.Proofs.Ytldmeimebebllaa

namespace Go.Proofs.Ytldmeimebebllaa
open Go.Mo
set_option linter.unusedVariables false
variable {g : Fr}
def Dk.flushed (D : Dk) (p : Int → Bool) : Dk := { D with lasts := fun k => match D.cached k with | some b => if p k then b else D.lasts k | none => D.lasts k }
def Dk.clean (D : Dk) : Dk := { D with cached := fun _ => none }
def Rk.setD (R : Rk) (j : Nat) (D : Dk) : Rk := { R with dk := fun i => if i = j then D else R.dk i }
end Go.Proofs.Ytldmeimebebllaa

namespace Go.Proofs.Ytldmeimebebllaa
open Go.Mo
set_option linter.unusedVariables false
variable {g : Fr} {cv : CV}
def zv (b : List Int) : List Value := b.map (Value.int .i64)
def intsP (s : Slc) (b : List Int) : HP := rsl 1 s (zv b)
instance (s : Slc) (b : List Int) : RdS 1 s (intsP s b) (zv b) := ⟨Ent.refl _⟩
instance (s : Slc) (b : List Int) : RdS 1 s (byt s b) (bv b) := ⟨Ent.refl _⟩
theorem cap_of {H : HP} {z : Nat} {s : Slc} {cs : List Value} (h : Ent H (rsl z s cs)) : Ent H (pr (s.len ≤ s.cap)) := Ent.trans h fun o ho => by
  rcases ho with ho | ⟨ad, all, ho⟩
  · show s.len ≤ s.cap
    have := ho.1
    omega
  · exact (ent_left _ _ o ho).2.2.1
def Rk.arm (R : Rk) (c : Int) : Rk := { R with count := maxI c (-1) }
def Rk.lErr (R : Rk) (k s : Int) : Int := if k < 0 ∨ k ≥ R.n ∨ s < 0 ∨ s ≥ R.ns then 11 else 0
def Rk.lst (R : Rk) (k s : Int) : List Int := if R.lErr k s = 0 then (R.dk k.toNat).lasts s.toNat else []
def secOf (im : List Int) (k : Nat) : List Int := (List.range 64).map fun i => im.getD (k * 64 + i) 0
def Dk.load (D : Dk) (im : List Int) : Dk := { D with lasts := fun s => secOf im s, cached := fun _ => none }
def Rk.load (R : Rk) (k : Int) (im : List Int) : Rk := if k < 0 ∨ k ≥ R.n then R else R.setD k.toNat ((R.dk k.toNat).load im)
end Go.Proofs.Ytldmeimebebllaa
namespace Go.Proofs.Ytldmeimebebllaa
open Go.Mo
set_option linter.unusedVariables false
variable {g : Fr} {cv : CV}
def I6.nil : I6 := (0, 0, 0, 0, 0, 0)
def pickI (l : List I6) (i : Nat) : I6 := ((l.filter fun x => decide (I6.idx x = (i : Int))).headD I6.nil)
theorem pickI_of {l l' : List I6} (hp : l'.Perm l) {i : Nat} (h : cnt l i = 1) {x : I6} (hx : x ∈ l') (hi : I6.idx x = i) : pickI l i = x := by
  unfold pickI
  have h1 : (l.filter fun x => decide (I6.idx x = (i : Int))).length = 1 := by rw [← List.countP_eq_length_filter]; exact h
  have h2 : x ∈ l.filter fun x => decide (I6.idx x = (i : Int)) := List.mem_filter.2 ⟨hp.mem_iff.1 hx, by simpa using hi⟩
  match l.filter fun x => decide (I6.idx x = (i : Int)), h1, h2 with
  | [y], _, h2 => exact (List.mem_singleton.1 h2).symm
theorem sorted_take {l l' : List I6} (hp : l'.Perm l) (h : SortedF cf_scan_Groups_c1 l') (h0 : ∀ x ∈ l, 0 ≤ I6.idx x) {c : Int} (hw : wholeC l c = true) : l'.take c.toNat = (List.range c.toNat).map (pickI l) ∧ c.toNat ≤ l'.length ∧ 1 ≤ c := by
  unfold wholeC at hw
  simp only [Bool.and_eq_true, decide_eq_true_eq, List.all_eq_true, List.mem_range, beq_iff_eq] at hw
  obtain ⟨a1, a2, a3⟩ := sorted_first h (fun x hx => h0 x (hp.mem_iff.1 hx)) c.toNat fun i hi => by rw [cnt_perm hp]; exact hw.2 i hi
  refine ⟨?_, a1, hw.1⟩
  apply List.ext_getElem?
  intro i
  rw [List.getElem?_take, List.getElem?_map]
  by_cases hi : i < c.toNat
  · have hil : i < l'.length := by omega
    rw [if_pos hi, List.getElem?_range hi, List.getElem?_eq_getElem hil, Option.map_some]
    exact congrArg some (pickI_of hp (hw.2 i hi) (List.getElem_mem hil) (a2 i _ hi (List.getElem?_eq_getElem hil))).symm
  · rw [if_neg hi, List.getElem?_eq_none (by simpa using hi)]; rfl
abbrev Gr := Int × Int × List Int
def groupK (l : List I6) (k : Int × Int) : Gr := (k.1, (pickI (grp l k) (k.2.toNat - 1)).root, (List.range k.2.toNat).map fun i => (pickI (grp l k) i).seg)
theorem grp_ok {l : List I6} {k : Int × Int} : ∀ x ∈ grp l k, 0 ≤ I6.idx x := fun x hx => by
  unfold grp at hx
  have := (List.mem_filter.1 hx).2
  simp only [Bool.and_eq_true] at this
  have h := of_decide_eq_true (show decide (0 ≤ I6.idx x ∧ I6.idx x ≤ I6.seq x) = true from this.1)
  exact h.1
def grRow (x : Gr × Slc) : Int × Int × Slc := (x.1.1, x.1.2.1, x.2)
def segsP (zs : List (Gr × Slc)) : HP := al fun x : Gr × Slc => imp (x ∈ zs) (intsP x.2 x.1.2.2)
def groupsO (y : Slc) (gs : List Gr) : HP := ex fun zs : List (Gr × Slc) => pr (zs.map (·.1) = gs) * segsP zs * own 3 y ((zs.map grRow).flatMap encG3)
theorem encG3_len (x : Int × Int × Slc) : (encG3 x).length = 3 := rfl
theorem segsP_nil (A : HP) : Ent A (segsP []) := fun o _ x hx => by simp at hx
theorem segsP_snoc {zs : List (Gr × Slc)} {x : Gr × Slc} {A : HP} (h : Ent A (segsP zs)) (h2 : Ent A (intsP x.2 x.1.2.2)) : Ent A (segsP (zs ++ [x])) := fun o ho y hy => by
  rcases List.mem_append.1 hy with hy | hy
  · exact h o ho y hy
  · have : y = x := by simpa using hy
    subst this
    exact h2 o ho
theorem segsP_get {zs : List (Gr × Slc)} {x : Gr × Slc} (hx : x ∈ zs) : Ent (segsP zs) (intsP x.2 x.1.2.2) := fun o ho => ho x hx
theorem segsP_perm {zs zs' : List (Gr × Slc)} (h : zs'.Perm zs) : Ent (segsP zs) (segsP zs') := fun o ho x hx => ho x (h.mem_iff.1 hx)
end Go.Proofs.Ytldmeimebebllaa
namespace Go.Proofs.Ytldmeimebebllaa
open Go.Mo
set_option linter.unusedVariables false
variable {g : Fr} {cv : CV}
theorem ent_pr5 {p : Prop} {A B C D E F : HP} (hp : p) (h : Ent F (A * B * C * D * E)) : Ent F (pr p * A * B * C * D * E) := Ent.trans h (Ent.trans (ent_pr hp) (Ent.of_eq (by simp only [star_assoc])))
theorem groups_build {F : HP} {t s3 : Slc} {ms : List I6} {zs : List (Gr × Slc)} {q r : Int} {x10 : Nat} (hn : ms.length ≤ 100000) (ht : Ent F (rsl 6 t (ms.flatMap encI6))) (hz : s3.len ≤ 100000) {Q : Slc ⊕ Slc → HP}
    (hQ : ∀ s4 u, Ent (F * segsP (zs ++ [((q, r, ms.map I6.seg), u)]) * own 3 s4 (((zs ++ [((q, r, ms.map I6.seg), u)]).map grRow).flatMap encG3)) (Q (.inl s4))) :
    wps g (F * pc x10 [.int .i64 q, .int .i64 r, .slice none 0 0] * segsP zs * own 3 s3 ((zs.map grRow).flatMap encG3))
      (loopM (fun (s5 : (Int)) =>
              (if (decide (s5 < ((t.len : Nat) : Int))) = true then
                bindM (idxM t s5 6) fun x84 =>
                  bindM (ldA (fun y : (Int × Int × Int × Int × Int × Int) => [(.int .i64 y.1), (.int .i64 y.2.1), (.int .i64 y.2.2.1), (.int .i64 y.2.2.2.1), (.int .i64 y.2.2.2.2.1), (.int .i64 y.2.2.2.2.2)]) x84) fun x85 =>
                  bindM (allocM [(.int .i64 0), (.int .i64 0), (.int .i64 0), (.int .i64 0), (.int .i64 0), (.int .i64 0)]) fun x12 =>
                  bindM (stA x12 [(.int .i64 x85.1), (.int .i64 x85.2.1), (.int .i64 x85.2.2.1), (.int .i64 x85.2.2.2.1), (.int .i64 x85.2.2.2.2.1), (.int .i64 x85.2.2.2.2.2)]) fun _ =>
                  bindM (ld vS (Addr.add ⟨x10, 0, none⟩ 2)) fun x87 =>
                  bindM (ld (Value.int .i64) x12) fun x89 =>
                  bindM (allocM [(.int .i64 x89)]) fun x90 =>
                  bindM (appendM [(.int .i64 0)] 8 x87 ⟨some x90, 1, 1⟩) fun x91 =>
                  bindM (st (Addr.add ⟨x10, 0, none⟩ 2) (.slice x91.base x91.len x91.cap)) fun _ =>
                  pureM (.inl (w64 (s5 + 1)))
                else
                mapR (bindM (ldA (fun y : (Int × Int × Slc) => [(.int .i64 y.1), (.int .i64 y.2.1), (.slice y.2.2.base y.2.2.len y.2.2.cap)]) ⟨x10, 0, none⟩) fun x95 =>
                  bindM (allocM [(.int .i64 x95.1), (.int .i64 x95.2.1), (.slice x95.2.2.base x95.2.2.len x95.2.2.cap)]) fun x96 =>
                  bindM (appendM [(.int .i64 0), (.int .i64 0), (.slice none 0 0)] 40 s3 ⟨some x96, 1, 1⟩) fun x97 =>
                  pureM (.inl x97)))) 0) Q := by
  refine wps_fact (Ent.trans (ent_pick1 (A := F)) (Ent.trans ht (rsl_len _ _ _))) fun hlen => ?_
  rw [flat_len encI6_len] at hlen
  have hlen : ms.length = t.len := by omega
  refine wps_loop (fun st => ex fun i : Nat => ex fun u : Slc => pr (st = (i : Int) ∧ i ≤ ms.length ∧ u.len = i) * F * pc x10 [.int .i64 q, .int .i64 r, vS u] * segsP zs * own 3 s3 ((zs.map grRow).flatMap encG3) * own 1 u (zv ((ms.take i).map I6.seg))) (fun st => (ms.length - st).toNat) ?_ fun st => ?_
  · refine ent_ex 0 (ent_ex ⟨none, 0, 0⟩ ?_)
    refine ent_own0 (z := 1) ?_
    refine ent_pr4 ⟨rfl, by omega, rfl⟩ (Ent.refl _)
  refine wps_ex fun i => wps_ex fun u => wps_prP fun ⟨hi, hin, hu⟩ => ?_
  refine wps_ite (fun hc => ?_) (fun hc => ?_)
  · have hlt : i < ms.length := by simp only [decide_eq_true_eq] at hc; omega
    have hget : ms[i]? = some ms[i] := List.getElem?_eq_getElem hlt
    have htk : ms.take (i + 1) = ms.take i ++ [ms[i]] := by rw [List.take_add_one, hget]; rfl
    refine wps_rdA i ms[i] (Ent.trans (ent_pick1 (A := F)) ht) hi (by simp) (fun j v hj => ?_) ?_
    · have h5 : j < 6 := by have := (List.getElem?_eq_some_iff.1 hj).1; simpa using this
      rw [flat_get encI6_len hget h5]; exact hj
    refine wps_alloc fun x12 => ?_
    refine wps_stA (by simp) (by simp [Value.oneCell']) ?_
    refine wps_ld u (by rfl) ?_
    refine wps_ld (I6.seg ms[i]) (by rfl) ?_
    refine wps_alloc fun x90 => ?_
    refine wps_app 1 [.int .i64 (I6.seg ms[i])] rfl (by decide) (Ent.trans (ent_pick1 (A := pc x90 [.int .i64 (I6.seg ms[i])])) (rsl_pc rfl)) (by simp [Value.oneCell']) (show (16 * (u.len + 1) + 4096) * 8 ≤ 2 ^ 48 by omega) fun u2 hu2 => ?_
    refine wps_st (by simp) ?_
    have hrg : w64 (st + 1) = ((i + 1 : Nat) : Int) := range_add1 hi (by omega)
    refine wps_pure (ent_prr (by rw [hrg]; omega) (ent_ex (i + 1) (ent_ex u2 ?_)))
    have hzv : zv ((ms.take (i + 1)).map I6.seg) = zv ((ms.take i).map I6.seg) ++ [.int .i64 (I6.seg ms[i])] := by rw [htk, List.map_append]; simp only [zv, List.map_append, List.map_cons, List.map_nil]
    rw [hzv]
    refine ent_pr5 ⟨hrg, by omega, by rw [hu2, hu]⟩ ?_
    repeat (first
      | (with_reducible exact ent_drop)
      | (with_reducible refine ent_pick ?_)
      | (refine ent_pickC (by rfl) ?_)
      | (refine ent_pickS (by rfl) ?_)
      | (refine ent_pickM (by rfl) ?_)
      | (refine ent_prx ?_ ?_; rotate_left)
      | (refine ent_prq ?_))
  · have hie : i = ms.length := by simp only [decide_eq_true_eq] at hc; omega
    have htl : ms.take i = ms := by rw [hie, List.take_length]
    rw [htl]
    refine wps_mapR ?_
    refine wps_ldA (q, r, u) (by rfl) ?_
    refine wps_alloc fun x96 => ?_
    dsimp only
    refine wps_app 3 (encG3 (q, r, u)) rfl (by decide) (Ent.trans (ent_pick1 (A := pc x96 [.int .i64 q, .int .i64 r, .slice u.base u.len u.cap])) (rsl_pc rfl)) (by simp [encG3, vS, Value.oneCell']) (show (16 * (s3.len + 1) + 4096) * 40 ≤ 2 ^ 48 by omega) fun s4 hs4 => ?_
    refine wps_pure ?_
    have e1 : Ent (segsP zs * own 1 u (zv (ms.map I6.seg))) (segsP (zs ++ [((q, r, ms.map I6.seg), u)])) := segsP_snoc (ent_left _ _) (Ent.trans (ent_right _ _) (own_rsl _ _ _))
    have e2 : ((zs ++ [((q, r, ms.map I6.seg), u)]).map grRow).flatMap encG3 = (zs.map grRow).flatMap encG3 ++ encG3 (q, r, u) := by simp [grRow]
    refine Ent.trans (B := F * (segsP zs * own 1 u (zv (ms.map I6.seg))) * own 3 s4 ((zs.map grRow).flatMap encG3 ++ encG3 (q, r, u))) ?_ (Ent.trans (Ent.starl (Ent.starr e1)) ?_)
    · simp only [← star_assoc]
      repeat (first
        | (with_reducible exact ent_drop)
        | (with_reducible refine ent_pick ?_)
        | (refine ent_pickC (by rfl) ?_)
        | (refine ent_pickS (by rfl) ?_)
        | (refine ent_pickM (by rfl) ?_)
        | (refine ent_prx ?_ ?_; rotate_left)
        | (refine ent_prq ?_))
    · rw [← e2]
      exact hQ s4 u
end Go.Proofs.Ytldmeimebebllaa
namespace Go.Proofs.Ytldmeimebebllaa
open Go.Mo
set_option linter.unusedVariables false
variable {g : Fr} {cv : CV}
def wholeK (l : List I6) (k : Int × Int) : Bool := wholeC (grp l k) k.2
structure Go2 (l : List I6) (ks ds rs : List (Int × Int)) (zs : List (Gr × Slc)) : Prop where
  all : (ds ++ rs).Perm ks
  got : (zs.map (·.1)).Perm ((ds.filter (wholeK l)).map (groupK l))
def visF (ds : List (Int × Int)) : Int × Int → Bool := fun k => decide (k ∈ ds)
theorem visF_cons (ds : List (Int × Int)) (j : Int × Int) : (fun i => visF ds i || i == j) = visF (j :: ds) := by
  funext i
  unfold visF
  by_cases h : i = j
  · subst h; simp
  · have : (i == j) = false := by simpa using h
    simp [h, this]
theorem Go2.step_no {l : List I6} {ks ds rs : List (Int × Int)} {zs : List (Gr × Slc)} {j : Int × Int} (h : Go2 l ks ds rs zs) (hj : j ∈ rs) (hw : wholeK l j = false) : Go2 l ks (j :: ds) (rs.erase j) zs := ⟨by
  refine List.Perm.trans ?_ h.all
  have h1 : rs.Perm (j :: rs.erase j) := List.perm_cons_erase hj
  exact (List.perm_middle.symm).trans ((List.Perm.refl ds).append h1.symm), by rw [List.filter_cons, if_neg (by simp [hw])]; exact h.got⟩
theorem Go2.step_yes {l : List I6} {ks ds rs : List (Int × Int)} {zs : List (Gr × Slc)} {j : Int × Int} (h : Go2 l ks ds rs zs) (hj : j ∈ rs) (hw : wholeK l j = true) (u : Slc) : Go2 l ks (j :: ds) (rs.erase j) (zs ++ [(groupK l j, u)]) := ⟨by
  refine List.Perm.trans ?_ h.all
  have h1 : rs.Perm (j :: rs.erase j) := List.perm_cons_erase hj
  exact (List.perm_middle.symm).trans ((List.Perm.refl ds).append h1.symm), by
  rw [List.filter_cons, if_pos hw, List.map_cons, List.map_append, List.map_cons, List.map_nil]
  exact List.perm_append_comm.trans (List.Perm.cons _ h.got)⟩
theorem Go2.done {l : List I6} {ks ds rs : List (Int × Int)} {zs : List (Gr × Slc)} (h : Go2 l ks ds rs zs) (hn : ks.Nodup) (ha : ∀ k ∈ ks, k ∈ ds) : (zs.map (·.1)).Perm ((ks.filter (wholeK l)).map (groupK l)) := by
  have hr : rs = [] := by
    cases rs with
    | nil => rfl
    | cons r rs =>
      have h1 : r ∈ ks := h.all.mem_iff.1 (by simp)
      have h2 := ha r h1
      have h3 := (h.all.nodup_iff).2 hn
      exact absurd rfl ((List.nodup_append.1 h3).2.2 r h2 r (by simp))
  subst hr
  have h4 : ds.Perm ks := by simpa using h.all
  exact h.got.trans ((h4.filter _).map _)
end Go.Proofs.Ytldmeimebebllaa
namespace Go.Proofs.Ytldmeimebebllaa
open Go.Mo
set_option linter.unusedVariables false
variable {g : Fr} {cv : CV}
def remP (l : List I6) (rs : List (Int × Int)) (slf : Int × Int → Slc) : HP := lst rs fun k => own 6 (slf k) ((grp l k).flatMap encI6)
theorem remP_open {l : List I6} {rs : List (Int × Int)} {k : Int × Int} {slf : Int × Int → Slc} (h : k ∈ rs) : remP l rs slf = remP l (rs.erase k) slf * own 6 (slf k) ((grp l k).flatMap encI6) := lst_erase (F := fun k => own 6 (slf k) ((grp l k).flatMap encI6)) h
def outP (l : List I6) (ks : List (Int × Int)) (y : Slc) : HP := ex fun zs : List (Gr × Slc) => pr ((zs.map (·.1)).Perm ((ks.filter (wholeK l)).map (groupK l)) ∧ SortedF cf_scan_Groups_c2 (zs.map grRow)) * segsP zs * own 3 y ((zs.map grRow).flatMap encG3)
theorem perm_pull {α β : Type} {f : α → β} : ∀ {l' : List β} {l : List α}, l'.Perm (l.map f) → ∃ z : List α, z.Perm l ∧ z.map f = l' := by
  intro l' l h
  generalize hm : l.map f = m at h
  induction h generalizing l with
  | nil => exact ⟨[], by rw [List.map_eq_nil_iff.1 hm], rfl⟩
  | cons x h ih =>
    rename_i a b
    match l, hm with
    | y :: l, hm =>
      simp only [List.map_cons, List.cons.injEq] at hm
      obtain ⟨z, h1, h2⟩ := ih hm.2
      exact ⟨y :: z, h1.cons y, by rw [List.map_cons, h2, hm.1]⟩
  | swap x y t =>
    match l, hm with
    | a :: b :: l, hm =>
      simp only [List.map_cons, List.cons.injEq] at hm
      exact ⟨b :: a :: l, List.Perm.swap _ _ _, by simp [hm.1, hm.2.1, hm.2.2]⟩
  | trans h1 h2 ih1 ih2 =>
    obtain ⟨z, a1, a2⟩ := ih2 hm
    obtain ⟨z2, b1, b2⟩ := ih1 a2
    exact ⟨z2, b1.trans a1, b2⟩
theorem Go2.few {l : List I6} {ks ds rs : List (Int × Int)} {zs : List (Gr × Slc)} (h : Go2 l ks ds rs zs) (hk : KsOk l ks) : zs.length ≤ l.length := by
  have h1 := h.got.length_eq
  have h2 := h.all.length_eq
  have h3 := hk.few
  have h4 := List.length_filter_le (wholeK l) ds
  simp only [List.length_map, List.length_append] at h1 h2
  omega
theorem scan_Groups_raw (s : Slc) (l : List I6) (hl : l.length ≤ 100000) : wps g (infosP s l) (scan_Groups s) (fun y => ex fun ks => pr (KsOk l ks) * infosP s l * outP l ks y) := by
  unfold scan_Groups
  simp only [Addr.add_add, Nat.reduceAdd]
  refine groups_first hl fun m ks slf hks => ?_
  refine wps_rangeMap2 (H' := infosP s l * heldP l ks slf) (f := mapF ks slf) (m := m) (by ac_rfl) fun it => ?_
  refine wps_loopg (γ := List (Int × Int) × List (Int × Int) × List (Gr × Slc)) (fun c (st : Slc) => pr (Go2 l ks c.1 c.2.1 c.2.2) * infosP s l * itr2 it m (mapF ks slf) (visF c.1) * remP l c.2.1 slf * segsP c.2.2 * own 3 st ((c.2.2.map grRow).flatMap encG3)) (fun c _ => c.2.1.length) ([], ks, []) ?_ fun c st => ?_
  · rw [show (fun _ : Int × Int => false) = visF [] by funext k; simp [visF]]
    refine ent_own0 (z := 3) (ent_pers ?_ (segsP_nil _))
    show Ent _ (_ * infosP s l * _ * heldP l ks slf)
    refine ent_pr3 ⟨by simp, by simp⟩ ?_
    repeat (first
      | (with_reducible exact ent_drop)
      | (with_reducible refine ent_pick ?_)
      | (refine ent_pickC (by rfl) ?_)
      | (refine ent_pickS (by rfl) ?_)
      | (refine ent_pickM (by rfl) ?_)
      | (refine ent_prx ?_ ?_; rotate_left)
      | (refine ent_prq ?_))
  obtain ⟨ds, rs, zs⟩ := c
  refine wps_prP fun hgo => ?_
  have hgo : Go2 l ks ds rs zs := hgo
  have hzl : zs.length ≤ l.length := hgo.few hks
  refine wps_next2 (H' := infosP s l * remP l rs slf * segsP zs * own 3 st ((zs.map grRow).flatMap encG3)) (f := mapF ks slf) (V := visF ds) (by simp only [emp_star]; ac_rfl) (fun hall => ?_) (fun j v hf hv => ?_)
  · dsimp only
    refine wps_mapR ?_
    refine wps_sortF (γ := Int × Int × Slc) (H' := infosP s l * remP l rs slf * segsP zs * itr2 it m (mapF ks slf) (visF ds)) (l := zs.map grRow) (by decide) encG3_len (by ac_rfl) (by simp; omega) fun l' hp hs => ?_
    obtain ⟨z, z1, z2⟩ := perm_pull hp
    have hd := hgo.done hks.nodup fun k hk => by
      have := hall k _ (show mapF ks slf k = some (vS (slf k)) by simp [mapF, hk])
      exact of_decide_eq_true this
    refine wps_pure ?_
    rw [← z2]
    refine ent_ex ks (Ent.trans (B := infosP s l * (segsP z * own 3 st ((z.map grRow).flatMap encG3))) ?_ ?_)
    · refine Ent.trans (B := infosP s l * (segsP zs * own 3 st ((z.map grRow).flatMap encG3))) ?_ (Ent.starr (Ent.starl (segsP_perm z1)))
      simp only [← star_assoc]
      repeat (first
        | (with_reducible exact ent_drop)
        | (with_reducible refine ent_pick ?_)
        | (refine ent_pickC (by rfl) ?_)
        | (refine ent_pickS (by rfl) ?_)
        | (refine ent_pickM (by rfl) ?_)
        | (refine ent_prx ?_ ?_; rotate_left)
        | (refine ent_prq ?_))
    · have ho : Ent (segsP z * own 3 st ((z.map grRow).flatMap encG3)) (outP l ks st) := ent_ex z (Ent.trans (ent_pr (p := (z.map (·.1)).Perm ((ks.filter (wholeK l)).map (groupK l)) ∧ SortedF cf_scan_Groups_c2 (z.map grRow)) ⟨(z1.map _).trans hd, by rw [z2]; exact hs⟩) (Ent.of_eq (by simp only [star_assoc])))
      exact Ent.trans (Ent.starr ho) (Ent.trans (ent_pr hks) (Ent.of_eq (by simp only [star_assoc])))
  · have hjk : j ∈ ks ∧ v = vS (slf j) := by
      unfold mapF at hf
      split at hf
      · exact ⟨by assumption, (Option.some.inj hf).symm⟩
      · cases hf
    have hjr : j ∈ rs := by
      rcases List.mem_append.1 (hgo.all.mem_iff.2 hjk.1) with h | h
      · exact absurd (decide_eq_true h) (by unfold visF at hv; simp [hv])
      · exact h
    dsimp only
    refine wps_entry2 (H' := infosP s l * remP l rs slf * segsP zs * own 3 st ((zs.map grRow).flatMap encG3)) (slf j) rfl hjk.2 ?_
    rw [visF_cons]
    refine wps_alloc fun x8 => ?_
    refine wps_stA (by simp) (by simp [Value.oneCell']) ?_
    refine wps_pre (H' := infosP s l * remP l (rs.erase j) slf * segsP zs * own 3 st ((zs.map grRow).flatMap encG3) * itr2 it m (mapF ks slf) (visF (j :: ds)) * pc x8 [.int .i64 j.1, .int .i64 j.2] * own 6 (slf j) ((grp l j).flatMap encI6)) ?_ ?_
    · rw [remP_open hjr]
      simp only [← star_assoc]
      repeat (first
        | (with_reducible exact ent_drop)
        | (with_reducible refine ent_pick ?_)
        | (refine ent_pickC (by rfl) ?_)
        | (refine ent_pickS (by rfl) ?_)
        | (refine ent_pickM (by rfl) ?_)
        | (refine ent_prx ?_ ?_; rotate_left)
        | (refine ent_prq ?_))
    have hgl := grp_len l j
    refine wps_sortF (γ := I6) (by decide) encI6_len rfl (by omega) fun l' hp hs => ?_
    refine wps_eq (H' := infosP s l * remP l (rs.erase j) slf * segsP zs * own 3 st ((zs.map grRow).flatMap encG3) * itr2 it m (mapF ks slf) (visF (j :: ds)) * pc x8 [.int .i64 j.1, .int .i64 j.2] * own 6 (slf j) (l'.flatMap encI6)) rfl ?_
    refine wps_ld j.2 (by rfl) ?_
    have hll : l'.length ≤ 100000 := by rw [hp.length_eq]; omega
    have hw : wholeB l' j.2 = wholeK l j := whole_iff hp hs grp_ok j.2
    refine wps_val (scan_whole_val (l := l') (Ent.trans (ent_right _ _) (own_rsl _ _ _)) (by omega)) ?_
    rw [hw]
    refine wps_ite (fun hno => ?_) (fun hyes => ?_)
    · have hno : wholeK l j = false := by simpa using hno
      refine wps_pure ?_
      refine ent_ex (j :: ds, rs.erase j, zs) (ent_prr (by show (rs.erase j).length < rs.length; have := List.length_erase_of_mem hjr; have := List.length_pos_of_mem hjr; omega) ?_)
      refine ent_pr5 (hgo.step_no hjr hno) ?_
      repeat (first
        | (with_reducible exact ent_drop)
        | (with_reducible refine ent_pick ?_)
        | (refine ent_pickC (by rfl) ?_)
        | (refine ent_pickS (by rfl) ?_)
        | (refine ent_pickM (by rfl) ?_)
        | (refine ent_prx ?_ ?_; rotate_left)
        | (refine ent_prq ?_))
    · have hyes : wholeK l j = true := by simpa using hyes
      obtain ⟨t1, t2, t3⟩ := sorted_take hp hs grp_ok hyes
      refine wps_ld j.2 (by rfl) ?_
      refine wps_fact (Ent.trans (ent_right _ _) (own_len _ _ _)) fun hol => ?_
      rw [flat_len encI6_len] at hol
      have hle : l'.length = (slf j).len := by omega
      generalize hH : infosP s l * remP l (rs.erase j) slf * segsP zs * own 3 st ((zs.map grRow).flatMap encG3) * itr2 it m (mapF ks slf) (visF (j :: ds)) * pc x8 [.int .i64 j.1, .int .i64 j.2] * own 6 (slf j) (l'.flatMap encI6) = HH
      have hv : Val g HH (sliceM (slf j) none (some j.2) 6) (subS 6 (slf j) 0 j.2.toNat) := sliceM_val rfl (by simp; omega) (Nat.zero_le _) (by omega)
      refine wps_val hv ?_
      subst hH
      have hsub : Ent (own 6 (slf j) (l'.flatMap encI6)) (rsl 6 (subS 6 (slf j) 0 j.2.toNat) (((List.range j.2.toNat).map (pickI (grp l j))).flatMap encI6)) := Ent.trans (own_rsl _ _ _) (Ent.trans (rsl_sub (l := 0) (h := j.2.toNat) (by omega) (by omega)) (Ent.of_eq (by
        congr 1
        simp only [Nat.zero_mul, List.drop_zero, Nat.sub_zero]
        rw [flat_take encI6_len, t1])))
      have e6 : (subS 6 (slf j) 0 j.2.toNat).len = j.2.toNat := by simp [subS]
      generalize subS 6 (slf j) 0 j.2.toNat = t at *
      refine wps_regionH ?_
      refine wps_ldI j.1 (by rfl) ?_
      have hn1 : w64 (((t.len : Nat) : Int) - 1) = ((j.2.toNat - 1 : Nat) : Int) := by rw [w64_id (by omega) (by omega)]; omega
      have hget : ((List.range j.2.toNat).map (pickI (grp l j)))[j.2.toNat - 1]? = some (pickI (grp l j) (j.2.toNat - 1)) := by
        rw [List.getElem?_map, List.getElem?_range (by omega)]; rfl
      refine wps_rdFI (f := 5) (j.2.toNat - 1) (I6.root (pickI (grp l j) (j.2.toNat - 1))) (Ent.trans (ent_right _ _) hsub) (Ent.refl _) hn1 (by omega) (by rw [flat_get encI6_len hget (by omega)]; rfl) ?_
      refine wps_stepAlloc fun x10 => ?_
      refine wps_stA (by simp) (by simp [Value.oneCell']) ?_
      refine wps_fact (Ent.trans (ent_pick1 (A := own 3 st ((zs.map grRow).flatMap encG3))) (own_len _ _ _)) fun hst => ?_
      rw [flat_len encG3_len, List.length_map] at hst
      refine wps_pre (H' := (infosP s l * remP l (rs.erase j) slf * itr2 it m (mapF ks slf) (visF (j :: ds)) * pc x8 [.int .i64 j.1, .int .i64 j.2] * own 6 (slf j) (l'.flatMap encI6)) * pc x10 [.int .i64 j.1, .int .i64 (I6.root (pickI (grp l j) (j.2.toNat - 1))), .slice none 0 0] * segsP zs * own 3 st ((zs.map grRow).flatMap encG3)) ?_ ?_
      · repeat (first
          | (with_reducible exact ent_drop)
          | (with_reducible refine ent_pick ?_)
          | (refine ent_pickC (by rfl) ?_)
          | (refine ent_pickS (by rfl) ?_)
          | (refine ent_pickM (by rfl) ?_)
          | (refine ent_prx ?_ ?_; rotate_left)
          | (refine ent_prq ?_))
      refine groups_build (F := infosP s l * remP l (rs.erase j) slf * itr2 it m (mapF ks slf) (visF (j :: ds)) * pc x8 [.int .i64 j.1, .int .i64 j.2] * own 6 (slf j) (l'.flatMap encI6)) (ms := (List.range j.2.toNat).map (pickI (grp l j))) (by simp; omega) (Ent.trans (ent_right _ _) hsub) (by omega) fun s4 u => ?_
      have hg : zs ++ [((j.1, I6.root (pickI (grp l j) (j.2.toNat - 1)), ((List.range j.2.toNat).map (pickI (grp l j))).map I6.seg), u)] = zs ++ [(groupK l j, u)] := by
        simp only [groupK, List.map_map]
        rfl
      rw [hg]
      refine ent_ex (j :: ds, rs.erase j, zs ++ [(groupK l j, u)]) (ent_prr (by show (rs.erase j).length < rs.length; have := List.length_erase_of_mem hjr; have := List.length_pos_of_mem hjr; omega) ?_)
      refine ent_pr5 (hgo.step_yes hjr hyes u) ?_
      simp only [← star_assoc]
      repeat (first
        | (with_reducible exact ent_drop)
        | (with_reducible refine ent_pick ?_)
        | (refine ent_pickC (by rfl) ?_)
        | (refine ent_pickS (by rfl) ?_)
        | (refine ent_pickM (by rfl) ?_)
        | (refine ent_prx ?_ ?_; rotate_left)
        | (refine ent_prq ?_))
end Go.Proofs.Ytldmeimebebllaa
namespace Go.Proofs.Ytldmeimebebllaa
open Go.Mo
set_option linter.unusedVariables false
variable {g : Fr} {cv : CV}
def ltG (x y : Gr) : Bool := decide (x.1 < y.1 ∨ x.1 = y.1 ∧ x.2.2.length < y.2.2.length)
end Go.Proofs.Ytldmeimebebllaa
namespace Go.Proofs.Ytldmeimebebllaa
open Go.Mo
set_option linter.unusedVariables false
variable {g : Fr} {cv : CV}
def MemG (l : List I6) (x : Gr) : Prop := ∃ k, (∃ y ∈ l, I6.ok y = true ∧ I6.key y = k) ∧ wholeK l k = true ∧ groupK l k = x
structure IsG (l : List I6) (gs : List Gr) : Prop where
  mem : ∀ x, x ∈ gs ↔ MemG l x
  srt : gs.Pairwise fun x y => ltG x y = true
theorem ltG_irr (x : Gr) : ltG x x = false := by simp [ltG]
theorem ltG_tr (x y z : Gr) (h1 : ltG x y = true) (h2 : ltG y z = true) : ltG x z = true := by
  unfold ltG at *
  simp only [decide_eq_true_eq] at *
  omega
theorem sorted_mem {α : Type} {lt : α → α → Bool} (hirr : ∀ x, lt x x = false) (htr : ∀ x y z, lt x y = true → lt y z = true → lt x z = true) : ∀ {a b : List α}, (∀ x, x ∈ a ↔ x ∈ b) → a.Pairwise (fun x y => lt x y = true) → b.Pairwise (fun x y => lt x y = true) → a = b
  | [], [], _, _, _ => rfl
  | [], y :: b, h, _, _ => absurd ((h y).2 (by simp)) (by simp)
  | x :: a, [], h, _, _ => absurd ((h x).1 (by simp)) (by simp)
  | x :: a, y :: b, h, ha, hb => by
    have hxy : x = y := by
      rcases List.mem_cons.1 ((h x).1 (by simp)) with e | h1
      · exact e
      rcases List.mem_cons.1 ((h y).2 (by simp)) with e | h2
      · exact e.symm
      have a1 := (List.pairwise_cons.1 hb).1 x h1
      have a2 := (List.pairwise_cons.1 ha).1 y h2
      have := htr _ _ _ a1 a2
      rw [hirr] at this
      cases this
    subst hxy
    have ha1 := (List.pairwise_cons.1 ha).1
    have hb1 := (List.pairwise_cons.1 hb).1
    have : a = b := sorted_mem hirr htr (fun z => ⟨fun hz => by
      rcases List.mem_cons.1 ((h z).1 (by simp [hz])) with e | h1
      · subst e; have := ha1 z hz; rw [hirr] at this; cases this
      · exact h1, fun hz => by
      rcases List.mem_cons.1 ((h z).2 (by simp [hz])) with e | h1
      · subst e; have := hb1 z hz; rw [hirr] at this; cases this
      · exact h1⟩) (List.pairwise_cons.1 ha).2 (List.pairwise_cons.1 hb).2
    rw [this]
theorem IsG.one {l : List I6} {a b : List Gr} (h : IsG l a) (h2 : IsG l b) : a = b := sorted_mem ltG_irr ltG_tr (fun x => (h.mem x).trans (h2.mem x).symm) h.srt h2.srt
theorem wholeC_pos {l : List I6} {c : Int} (h : wholeC l c = true) : 1 ≤ c := by
  unfold wholeC at h
  simp only [Bool.and_eq_true, decide_eq_true_eq] at h
  exact h.1
theorem groupK_len (l : List I6) (k : Int × Int) : (groupK l k).2.2.length = k.2.toNat := by simp [groupK]
theorem groupK_inj {l : List I6} {k j : Int × Int} (hk : wholeK l k = true) (hj : wholeK l j = true) (h1 : (groupK l k).1 = (groupK l j).1) (h2 : (groupK l k).2.2.length = (groupK l j).2.2.length) : k = j := by
  rw [groupK_len, groupK_len] at h2
  have a := wholeC_pos hk
  have b := wholeC_pos hj
  have c : k.1 = j.1 := h1
  obtain ⟨k1, k2⟩ := k
  obtain ⟨j1, j2⟩ := j
  dsimp only at *
  have : k2 = j2 := by omega
  rw [c, this]
theorem nodup_whole {l : List I6} : ∀ {ks : List (Int × Int)}, ks.Nodup → (∀ k ∈ ks, wholeK l k = true) → (ks.map (groupK l)).Nodup
  | [], _, _ => by simp
  | k :: ks, hn, hw => by
    rw [List.map_cons, List.nodup_cons]
    refine ⟨fun hm => ?_, nodup_whole (List.nodup_cons.1 hn).2 fun j hj => hw j (by simp [hj])⟩
    obtain ⟨j, hj, he⟩ := List.mem_map.1 hm
    have := groupK_inj (hw k (by simp)) (hw j (by simp [hj])) (by rw [he]) (by rw [he])
    subst this
    exact (List.nodup_cons.1 hn).1 hj
theorem isG_of {l : List I6} {ks : List (Int × Int)} {zs : List (Gr × Slc)} (hk : KsOk l ks) (hp : (zs.map (·.1)).Perm ((ks.filter (wholeK l)).map (groupK l))) (hs : SortedF cf_scan_Groups_c2 (zs.map grRow)) (hl : ∀ z ∈ zs, z.2.len = z.1.2.2.length) : IsG l (zs.map (·.1)) := by
  have hmem : ∀ x, x ∈ zs.map (·.1) ↔ ∃ k ∈ ks, wholeK l k = true ∧ groupK l k = x := fun x => by
    rw [hp.mem_iff, List.mem_map]
    constructor
    · rintro ⟨k, h1, h2⟩
      exact ⟨k, (List.mem_filter.1 h1).1, (List.mem_filter.1 h1).2, h2⟩
    · rintro ⟨k, h1, h2, h3⟩
      exact ⟨k, List.mem_filter.2 ⟨h1, h2⟩, h3⟩
  refine ⟨fun x => (hmem x).trans ⟨fun ⟨k, h1, h2⟩ => ⟨k, (hk.mem k).1 h1, h2⟩, fun ⟨k, h1, h2⟩ => ⟨k, (hk.mem k).2 h1, h2⟩⟩, ?_⟩
  have hnd : (zs.map (·.1)).Nodup := hp.nodup_iff.2 (nodup_whole (hk.nodup.filter _) fun k h => (List.mem_filter.1 h).2)
  rw [List.pairwise_iff_getElem]
  intro i j hi hj hij
  rw [List.length_map] at hi hj
  unfold SortedF at hs
  rw [List.pairwise_iff_getElem] at hs
  have h1 := hs i j (by simpa using hi) (by simpa using hj) hij
  rw [lt_c2] at h1
  simp only [List.getElem_map, grRow] at h1 ⊢
  rw [hl _ (List.getElem_mem hi), hl _ (List.getElem_mem hj)] at h1
  have hne : ¬ zs[i].1 = zs[j].1 := fun e => by
    have h2 := (List.pairwise_iff_getElem.1 hnd) i j (by simpa using hi) (by simpa using hj) hij
    simp only [List.getElem_map] at h2
    exact h2 e
  obtain ⟨k1, a1, a2, a3⟩ := (hmem zs[i].1).1 (List.mem_map_of_mem (List.getElem_mem hi))
  obtain ⟨k2, b1, b2, b3⟩ := (hmem zs[j].1).1 (List.mem_map_of_mem (List.getElem_mem hj))
  have hd : ¬ (zs[i].1.1 = zs[j].1.1 ∧ zs[i].1.2.2.length = zs[j].1.2.2.length) := fun ⟨e1, e2⟩ => by
    rw [← a3, ← b3] at e1 e2
    have := groupK_inj a2 b2 e1 e2
    subst this
    exact hne (a3.symm.trans b3)
  have h1 := of_decide_eq_false h1
  unfold ltG
  rw [decide_eq_true_eq]
  omega
theorem segs_len (zs : List (Gr × Slc)) : Ent (segsP zs) (pr (∀ z ∈ zs, z.2.len = z.1.2.2.length)) := fun o ho z hz => by
  have h := rsl_len _ _ _ o (segsP_get hz o ho)
  have h : (zv z.1.2.2).length = z.2.len * 1 := h
  simp [zv] at h
  exact h.symm
theorem scan_Groups_spec (s : Slc) (l : List I6) (gs : List Gr) (hg : IsG l gs) (hl : l.length ≤ 100000) : wps g (infosP s l) (scan_Groups s) (fun y => infosP s l * groupsO y gs) := by
  refine wps_post (scan_Groups_raw s l hl) fun y => ?_
  refine ex_ent fun ks => ?_
  rw [star_assoc]
  refine pr_ent fun hks => Ent.starr ?_
  unfold outP groupsO
  refine ex_ent fun zs => ?_
  rw [star_assoc]
  refine pr_ent fun hz => ?_
  refine ent_ex zs ?_
  rw [star_assoc]
  refine fun o ho => ?_
  have hlen : ∀ z ∈ zs, z.2.len = z.1.2.2.length := segs_len zs o (ent_left _ _ o ho)
  exact ent_pr (IsG.one (isG_of hks hz.1 hz.2 hlen) hg) o ho
end Go.Proofs.Ytldmeimebebllaa
namespace Go.Proofs.Ytldmeimebebllaa
open Go.Mo
set_option linter.unusedVariables false
variable {g : Fr} {cv : CV}
theorem grp_perm {l l' : List I6} (h : l'.Perm l) (k : Int × Int) : (grp l' k).Perm (grp l k) := h.filter _
theorem wholeC_perm {l l' : List I6} (h : l'.Perm l) (c : Int) : wholeC l' c = wholeC l c := by
  unfold wholeC
  congr 1
  rw [Bool.eq_iff_iff]
  simp only [List.all_eq_true, beq_iff_eq, cnt_perm h]
theorem wholeC_cnt {l : List I6} {c : Int} (h : wholeC l c = true) {i : Nat} (hi : i < c.toNat) : cnt l i = 1 := by
  unfold wholeC at h
  simp only [Bool.and_eq_true, List.all_eq_true, beq_iff_eq, List.mem_range] at h
  exact h.2 i hi
theorem pickI_perm {l l' : List I6} (h : l'.Perm l) {i : Nat} (hc : cnt l i = 1) : pickI l' i = pickI l i := by
  obtain ⟨x, hx, hi⟩ := List.countP_pos_iff.1 (show 0 < cnt l i by omega)
  have hi := of_decide_eq_true hi
  rw [pickI_of (List.Perm.refl l) hc hx hi]
  exact pickI_of h.symm ((cnt_perm h i).trans hc) hx hi
theorem groupK_perm {l l' : List I6} (h : l'.Perm l) {k : Int × Int} (hw : wholeK l k = true) : groupK l' k = groupK l k := by
  have hp := wholeC_pos hw
  have e : ∀ i, i < k.2.toNat → pickI (grp l' k) i = pickI (grp l k) i := fun i hi => pickI_perm (grp_perm h k) (wholeC_cnt hw hi)
  unfold groupK
  rw [e (k.2.toNat - 1) (by omega)]
  congr 2
  exact List.map_congr_left fun i hi => by rw [e i (List.mem_range.1 hi)]
theorem MemG.perm {l l' : List I6} (h : l'.Perm l) {x : Gr} (hm : MemG l x) : MemG l' x := by
  obtain ⟨k, ⟨y, hy, hk⟩, hw, hx⟩ := hm
  refine ⟨k, ⟨y, h.mem_iff.2 hy, hk⟩, ?_, (groupK_perm h hw).trans hx⟩
  exact (wholeC_perm (grp_perm h k) _).trans hw
theorem IsG.perm {l l' : List I6} {gs : List Gr} (h : l'.Perm l) (hg : IsG l gs) : IsG l' gs := ⟨fun x => (hg.mem x).trans ⟨fun hm => hm.perm h, fun hm => hm.perm h.symm⟩, hg.srt⟩
abbrev C3 := List Int × Nat × Nat
def chkE (c : C3) (k : Nat) : I6 := (c.1.getD k 0, ((c.2.1 + k : Nat) : Int), (c.1.length : Int), (k : Int), 0, if k + 1 = c.1.length then (c.2.2 : Int) else 0)
def chk (c : C3) : List I6 := (List.range c.1.length).map (chkE c)
def gOf (c : C3) : Gr := ((c.2.1 : Int), (c.2.2 : Int), c.1)
def keyC (c : C3) : Int × Int := ((c.2.1 : Int), (c.1.length : Int))
theorem chkE_ok (c : C3) (k : Nat) : I6.ok (chkE c k) = true := by
  unfold I6.ok
  rw [decide_eq_true_eq]
  simp only [I6.idx, I6.seq, chkE]
  omega
theorem chkE_key (c : C3) (k : Nat) : I6.key (chkE c k) = keyC c := by
  simp only [I6.key, I6.seq, I6.idx, I6.count, chkE, keyC, Prod.mk.injEq, and_true]
  omega
theorem chk_mem {c : C3} {x : I6} (h : x ∈ chk c) : I6.ok x = true ∧ I6.key x = keyC c := by
  obtain ⟨k, _, rfl⟩ := List.mem_map.1 h
  exact ⟨chkE_ok c k, chkE_key c k⟩
theorem cnt_range (c : C3) (i : Nat) : ∀ n, cnt ((List.range n).map (chkE c)) i = if i < n then 1 else 0
  | 0 => by simp [cnt]
  | n + 1 => by
    rw [List.range_succ, List.map_append, show cnt ((List.range n).map (chkE c) ++ [n].map (chkE c)) i = cnt ((List.range n).map (chkE c)) i + cnt [chkE c n] i from List.countP_append, cnt_range c i n]
    have : cnt [chkE c n] i = if n = i then 1 else 0 := by
      by_cases h : n = i
      · subst h; simp [cnt, I6.idx, chkE]
      · have : ¬ (n : Int) = (i : Int) := by omega
        simp [cnt, I6.idx, chkE, h, this]
    rw [this]
    by_cases h1 : i < n
    · rw [if_pos h1, if_neg (by omega), if_pos (by omega)]
    · by_cases h2 : n = i
      · rw [if_neg h1, if_pos h2, if_pos (by omega)]
      · rw [if_neg h1, if_neg h2, if_neg (by omega)]
theorem chk_whole {c : C3} (h : 1 ≤ c.1.length) : wholeC (chk c) (c.1.length : Int) = true := by
  unfold wholeC
  simp only [Bool.and_eq_true, decide_eq_true_eq, List.all_eq_true, List.mem_range, beq_iff_eq, Int.toNat_natCast]
  exact ⟨by omega, fun i hi => by rw [chk, cnt_range, if_pos hi]⟩
theorem chk_pick {c : C3} {i : Nat} (h : i < c.1.length) : pickI (chk c) i = chkE c i :=
  pickI_of (List.Perm.refl _) (by rw [chk, cnt_range, if_pos h]) (List.mem_map.2 ⟨i, List.mem_range.2 h, rfl⟩) rfl
structure Parts (ps : List (C3 × List I6)) : Prop where
  sub : ∀ p ∈ ps, ∀ x ∈ p.2, x ∈ chk p.1
  pos : ∀ p ∈ ps, 1 ≤ p.1.1.length
  rise : ps.Pairwise fun p q => p.1.2.1 + p.1.1.length ≤ q.1.2.1
theorem grp_app (a b : List I6) (k : Int × Int) : grp (a ++ b) k = grp a k ++ grp b k := List.filter_append ..
theorem grp_all {a : List I6} {k : Int × Int} (h : ∀ x ∈ a, I6.ok x = true ∧ I6.key x = k) : grp a k = a := by
  unfold grp
  rw [List.filter_eq_self]
  intro x hx
  simp [h x hx]
theorem grp_none {a : List I6} {k : Int × Int} (h : ∀ x ∈ a, I6.key x ≠ k) : grp a k = [] := by
  unfold grp
  rw [List.filter_eq_nil_iff]
  intro x hx
  simp [h x hx]
theorem Parts.tail {p : C3 × List I6} {ps : List (C3 × List I6)} (h : Parts (p :: ps)) : Parts ps := ⟨fun q hq => h.sub q (by simp [hq]), fun q hq => h.pos q (by simp [hq]), (List.pairwise_cons.1 h.rise).2⟩
theorem Parts.ne {p : C3 × List I6} {ps : List (C3 × List I6)} (h : Parts (p :: ps)) {q : C3 × List I6} (hq : q ∈ ps) : keyC p.1 ≠ keyC q.1 := fun e => by
  have a := (List.pairwise_cons.1 h.rise).1 q hq
  have b := h.pos p (by simp)
  have e1 : ((p.1.2.1 : Nat) : Int) = ((q.1.2.1 : Nat) : Int) := congrArg Prod.fst e
  omega
theorem Parts.grp : ∀ {ps : List (C3 × List I6)}, Parts ps → ∀ p ∈ ps, grp (ps.flatMap (·.2)) (keyC p.1) = p.2
  | q :: ps, h, p, hp => by
    rw [List.flatMap_cons, grp_app]
    rcases List.mem_cons.1 hp with rfl | hp
    · rw [grp_all fun x hx => chk_mem (h.sub p (by simp) x hx), grp_none, List.append_nil]
      intro x hx
      obtain ⟨q, hq, hx⟩ := List.mem_flatMap.1 hx
      rw [(chk_mem (h.sub q (by simp [hq]) x hx)).2]
      exact (h.ne hq).symm
    · rw [h.tail.grp p hp, grp_none, List.nil_append]
      intro x hx
      rw [(chk_mem (h.sub q (by simp) x hx)).2]
      exact h.ne hp
theorem groupK_chk {l : List I6} {c : C3} (h : Go.Proofs.Ytldmeimebebllaa.grp l (keyC c) = chk c) (h1 : 1 ≤ c.1.length) : groupK l (keyC c) = gOf c := by
  unfold groupK gOf
  rw [h]
  simp only [keyC, Int.toNat_natCast]
  rw [chk_pick (by omega)]
  have e1 : I6.root (chkE c (c.1.length - 1)) = (c.2.2 : Int) := by
    simp only [chkE, I6.root]
    rw [if_pos (by omega)]
  have e2 : (List.range c.1.length).map (fun i => I6.seg (pickI (chk c) i)) = c.1 := by
    rw [List.map_congr_left (g := fun i => c.1.getD i 0) fun i hi => by rw [chk_pick (List.mem_range.1 hi)]; rfl]
    apply List.ext_getElem?
    intro i
    rw [List.getElem?_map]
    by_cases hi : i < c.1.length
    · rw [List.getElem?_range hi, List.getElem?_eq_getElem hi]; simp [List.getElem?_eq_getElem hi]
    · rw [List.getElem?_eq_none (by simpa using hi), List.getElem?_eq_none (by omega)]; rfl
  rw [e1, e2]
theorem Parts.isG {ps : List (C3 × List I6)} (h : Parts ps) (hw : ∀ p ∈ ps, p.2 = chk p.1 ∨ wholeC p.2 p.1.1.length = false) : IsG (ps.flatMap (·.2)) ((ps.filter fun p => wholeC p.2 p.1.1.length).map fun p => gOf p.1) := by
  have hfull : ∀ p ∈ ps, wholeC p.2 p.1.1.length = true → p.2 = chk p.1 := fun p hp h1 => (hw p hp).resolve_right (by simp [h1])
  refine ⟨fun x => ?_, ?_⟩
  · rw [List.mem_map]
    constructor
    · rintro ⟨p, hp, rfl⟩
      obtain ⟨hp, hpw⟩ := List.mem_filter.1 hp
      have hpw : wholeC p.2 p.1.1.length = true := hpw
      have he := hfull p hp hpw
      have hg := h.grp p hp
      refine ⟨keyC p.1, ⟨chkE p.1 0, List.mem_flatMap.2 ⟨p, hp, ?_⟩, chkE_ok _ _, chkE_key _ _⟩, ?_, groupK_chk (hg.trans he) (h.pos p hp)⟩
      · rw [he]; exact List.mem_map.2 ⟨0, List.mem_range.2 (h.pos p hp), rfl⟩
      · unfold wholeK
        rw [hg]; exact hpw
    · rintro ⟨k, ⟨y, hy, _, hk⟩, hwk, rfl⟩
      obtain ⟨p, hp, hyp⟩ := List.mem_flatMap.1 hy
      rw [(chk_mem (h.sub p hp y hyp)).2] at hk
      subst hk
      have hg := h.grp p hp
      unfold wholeK at hwk
      rw [hg] at hwk
      have he := hfull p hp hwk
      exact ⟨p, List.mem_filter.2 ⟨hp, hwk⟩, (groupK_chk (hg.trans he) (h.pos p hp)).symm⟩
  · rw [List.pairwise_map]
    refine (h.rise.filter _).imp_of_mem fun {p q} hp hq hlt => ?_
    have a := h.pos p (List.mem_filter.1 hp).1
    unfold ltG gOf
    rw [decide_eq_true_eq]
    dsimp only
    omega
structure Lay (cs : List C3) : Prop where
  pos : ∀ c ∈ cs, 1 ≤ c.1.length
  rise : cs.Pairwise fun c d => c.2.1 + c.1.length ≤ d.2.1
theorem Lay.parts {cs : List C3} (h : Lay cs) : Parts (cs.map fun c => (c, chk c)) := ⟨fun p hp => by
  obtain ⟨c, _, rfl⟩ := List.mem_map.1 hp
  exact fun x hx => hx, fun p hp => by
  obtain ⟨c, hc, rfl⟩ := List.mem_map.1 hp
  exact h.pos c hc, by rw [List.pairwise_map]; exact h.rise⟩
theorem filter_chk : ∀ {cs : List C3}, (∀ c ∈ cs, 1 ≤ c.1.length) → ((cs.map fun c => (c, chk c)).filter fun p => wholeC p.2 p.1.1.length).map (fun p => gOf p.1) = cs.map gOf
  | [], _ => rfl
  | c :: cs, h => by
    rw [List.map_cons, List.filter_cons, if_pos (chk_whole (h c (by simp))), List.map_cons, List.map_cons, filter_chk fun d hd => h d (by simp [hd])]
theorem Lay.isG {cs : List C3} (h : Lay cs) : IsG (cs.flatMap chk) (cs.map gOf) := by
  have := h.parts.isG fun p hp => by
    obtain ⟨c, _, rfl⟩ := List.mem_map.1 hp
    exact .inl rfl
  rw [filter_chk h.pos, List.flatMap_map] at this
  exact this
theorem erase_not {c : C3} {k : Nat} (hk : k < c.1.length) : wholeC ((chk c).eraseIdx k) c.1.length = false := by
  apply Bool.eq_false_iff.2
  intro h
  have := wholeC_cnt h (i := k) (by simpa using hk)
  obtain ⟨x, hx, hi⟩ := List.countP_pos_iff.1 (show 0 < cnt ((chk c).eraseIdx k) k by omega)
  have hi := of_decide_eq_true hi
  obtain ⟨j, hj, hg⟩ := List.mem_eraseIdx_iff_getElem?.1 hx
  unfold chk at hg
  rw [List.getElem?_map] at hg
  obtain ⟨m, hm, rfl⟩ := Option.map_eq_some_iff.1 hg
  have hjm : j = m := by
    obtain ⟨h1, h2⟩ := List.getElem?_eq_some_iff.1 hm
    simpa using h2
  simp only [I6.idx, chkE] at hi
  omega
theorem Lay.drop {us bs : List C3} {c : C3} (h : Lay (us ++ c :: bs)) {k : Nat} (hk : k < c.1.length) : IsG (us.flatMap chk ++ ((chk c).eraseIdx k ++ bs.flatMap chk)) (us.map gOf ++ bs.map gOf) := by
  have hp : Parts (us.map (fun c => (c, chk c)) ++ (c, (chk c).eraseIdx k) :: bs.map fun c => (c, chk c)) := by
    have h0 := h.parts
    rw [List.map_append, List.map_cons] at h0
    refine ⟨fun p hp => ?_, fun p hp => ?_, ?_⟩
    · rcases List.mem_append.1 hp with hp | hp
      · exact h0.sub p (by simp [hp])
      · rcases List.mem_cons.1 hp with rfl | hp
        · exact fun x hx => List.mem_of_mem_eraseIdx hx
        · exact h0.sub p (by simp [hp])
    · rcases List.mem_append.1 hp with hp | hp
      · exact h0.pos p (by simp [hp])
      · rcases List.mem_cons.1 hp with rfl | hp
        · exact h.pos c (by simp)
        · exact h0.pos p (by simp [hp])
    · have hr := h0.rise
      rw [List.pairwise_append, List.pairwise_cons] at hr ⊢
      refine ⟨hr.1, ⟨hr.2.1.1, hr.2.1.2⟩, fun p hp q hq => ?_⟩
      rcases List.mem_cons.1 hq with rfl | hq
      · exact hr.2.2 p hp (c, chk c) (by simp)
      · exact hr.2.2 p hp q (by simp [hq])
  have := hp.isG fun p hp => by
    rcases List.mem_append.1 hp with hp | hp
    · obtain ⟨d, _, rfl⟩ := List.mem_map.1 hp; exact .inl rfl
    · rcases List.mem_cons.1 hp with rfl | hp
      · exact .inr (erase_not hk)
      · obtain ⟨d, _, rfl⟩ := List.mem_map.1 hp; exact .inl rfl
  rw [List.filter_append, List.filter_cons, if_neg (by simp [erase_not hk]), List.map_append, filter_chk fun d hd => h.pos d (by simp [hd]), filter_chk fun d hd => h.pos d (by simp [hd]), List.flatMap_append, List.flatMap_cons, List.flatMap_map, List.flatMap_map] at this
  exact this
end Go.Proofs.Ytldmeimebebllaa
namespace Go.Proofs.Ytldmeimebebllaa
open Go.Mo
set_option linter.unusedVariables false
variable {g : Fr} {cv : CV}
def isC (R : Rk) (i : Nat) : Bool := ((R.dk (i / R.ns)).cached ((i % R.ns : Nat) : Int)).isSome
def rank (R : Rk) (i : Nat) : Nat := ((List.range i).filter (isC R)).length
def keepB (ks : List Int) (n : Nat) : Bool := if ks.length = 0 then false else bAnd .i64 (ks.getD (n % ks.length) 0) 1 == 1
def Dk.restored (R : Rk) (ks : List Int) (j : Nat) : Dk := ((R.dk j).flushed fun k => keepB ks (rank R (j * R.ns + k.toNat)) && !(R.dk j).failed).clean
def Rk.restore (R : Rk) (ks : List Int) : Rk := { R with off := false, count := -1, dk := fun j => Dk.restored R ks j }
end Go.Proofs.Ytldmeimebebllaa

namespace Go.Proofs.Ytldmeimebebllaa
open Go.Mo
set_option linter.unusedVariables false
structure Settled (R : Rk) (f : Nat → Bool) : Prop where
  off : R.off = false
  count : R.count = -1
  failed : ∀ j, (R.dk j).failed = f j
  counts : ∀ j, (R.dk j).count = -1
theorem tickD {D : Dk} (h : D.count = -1) : D.tick = D := by
  obtain ⟨l, c, fl, k⟩ := D
  simp only at h
  subst h
  have hm : maxI (w64 (-1 - 1)) (-1) = -1 := by rw [w64m2]; rfl
  simp only [Dk.tick, hm]
  cases fl <;> rfl
theorem Settled.tick {R : Rk} {f : Nat → Bool} (h : Settled R f) : R.ticked = R := by
  have hdk : (fun j => (R.dk j).tick) = R.dk := by
    funext j; exact tickD (h.counts j)
  have hm : maxI (w64 (R.count - 1)) (-1) = R.count := by rw [h.count, w64m2]; rfl
  have hc : ¬ R.count = 0 := by rw [h.count]; omega
  simp only [Rk.ticked, if_neg hc, hdk, hm]
theorem Settled.gate {R : Rk} {f : Nat → Bool} (h : Settled R f) {k s : Int} (hk : 0 ≤ k ∧ k < R.n) (hs : 0 ≤ s ∧ s < R.ns) : R.gate k s 64 = if f k.toNat then 13 else 0 := by
  unfold Rk.gate
  have hr : ¬ (k < 0 ∨ k ≥ R.n ∨ s < 0 ∨ s ≥ R.ns) := by omega
  rw [if_neg (by simp [h.off]), if_neg hr, if_neg (by omega), if_neg (by rw [h.count]; omega), h.tick, h.failed]
theorem Settled.setD {R : Rk} {f : Nat → Bool} (h : Settled R f) {k : Nat} {D : Dk} (hf : D.failed = f k) (hc : D.count = -1) : Settled (R.setD k D) f := by
  refine ⟨h.off, h.count, fun j => ?_, fun j => ?_⟩
  · simp only [Rk.setD]; split
    · rename_i e; rw [e]; exact hf
    · exact h.failed j
  · simp only [Rk.setD]; split
    · exact hc
    · exact h.counts j
theorem gated_in {R : Rk} (ho : R.off = false) {k s : Int} (hk : 0 ≤ k ∧ k < R.n) (hs : 0 ≤ s ∧ s < R.ns) : R.gated k s 64 = R.ticked := by
  rw [Rk.gated, if_neg]
  rintro (h | h | h)
  · rw [ho] at h; cases h
  · omega
  · exact h rfl
structure Armed (R : Rk) (f : Nat → Bool) : Prop where
  off : R.off = false
  count : R.count = -1
  failed : ∀ j, (R.dk j).failed = false
  counts : ∀ j, (R.dk j).count = if f j then 0 else -1
theorem Armed.tick {R : Rk} {f : Nat → Bool} (h : Armed R f) : Settled R.ticked f := by
  have hc : ¬ R.count = 0 := by rw [h.count]; omega
  have hm : maxI (w64 (R.count - 1)) (-1) = -1 := by rw [h.count, w64m2]; rfl
  simp only [Rk.ticked, if_neg hc, hm]
  refine ⟨h.off, rfl, fun j => ?_, fun j => ?_⟩
  · simp only [h.failed, h.counts]
    cases f j <;> rfl
  · simp only [h.counts]
    have e1 : w64 (-1 - 1) = -2 := w64m2
    have e2 : w64 (0 - 1) = -1 := w64_id (by omega) (by omega)
    cases f j
    · show maxI (w64 (-1 - 1)) (-1) = -1
      rw [e1]; rfl
    · show maxI (w64 (0 - 1)) (-1) = -1
      rw [e2]; rfl
end Go.Proofs.Ytldmeimebebllaa
namespace Go.Proofs.Ytldmeimebebllaa
open Go.Mo
set_option linter.unusedVariables false
variable {g : Fr} {cv : CV}
structure Rk.cok (R : Rk) : Prop where
  pow : -1 ≤ R.count ∧ R.count < 9223372036854775808
  dks : ∀ j, -1 ≤ (R.dk j).count ∧ (R.dk j).count < 9223372036854775808
structure RQ (R : Rk) (l1 l2 l3 l4 : Slc) (sl cl : List Slc) (cs : List Int) : Prop where
  hsl : sl.length = R.n * R.ns
  hcl : cl.length = R.n * R.ns
  hcs : cs.length = R.n
  n17 : R.n ≤ 17
  ns4 : R.ns ≤ 4096
  hl1 : l1.len = R.n * R.ns
  hl2 : l2.len = R.n * R.ns
  hl3 : l3.len = R.n
  hl4 : l4.len = R.n
  ok : ∀ j, j < R.n → (R.dk j).ok R.ns
  cnt : ∀ j, j < R.n → (R.dk j).failed = false → cs[j]? = some (R.dk j).count
  cok : R.cok
theorem flat_div {k s ns : Nat} (h : s < ns) : (k * ns + s) / ns = k ∧ (k * ns + s) % ns = s := by
  have h0 : 0 < ns := by omega
  rw [Nat.mul_comm]
  refine ⟨?_, ?_⟩
  · rw [Nat.mul_add_div h0, Nat.div_eq_of_lt h]; omega
  · rw [Nat.mul_add_mod, Nat.mod_eq_of_lt h]
theorem flat_lt {k s n ns : Nat} (hk : k < n) (hs : s < ns) : k * ns + s < n * ns := by
  have : (k + 1) * ns ≤ n * ns := Nat.mul_le_mul_right _ hk
  rw [Nat.add_mul] at this; omega
theorem flat_w {k s : Int} {n ns : Nat} (hk : 0 ≤ k ∧ k < n) (hs : 0 ≤ s ∧ s < ns) (h17 : n ≤ 17) (h4 : ns ≤ 4096) : w64 (w64 (k * (ns : Int)) + s) = ((k.toNat * ns + s.toNat : Nat) : Int) := by
  obtain ⟨K, rfl⟩ : ∃ K : Nat, k = (K : Int) := ⟨k.toNat, by omega⟩
  obtain ⟨S, rfl⟩ : ∃ S : Nat, s = (S : Int) := ⟨s.toNat, by omega⟩
  have h1 : K * ns ≤ 17 * 4096 := Nat.mul_le_mul (by omega) h4
  rw [← Int.natCast_mul, w64_id (n := ((K * ns : Nat) : Int)) (by omega) (by omega), w64_id] <;> (try simp only [Int.toNat_natCast]) <;> omega
def thereB (R : Rk) (k s : Int) : Bool := decide (0 ≤ k ∧ k < R.n ∧ 0 ≤ s ∧ s < R.ns)
end Go.Proofs.Ytldmeimebebllaa
namespace Go.Proofs.Ytldmeimebebllaa
open Go.Mo
set_option linter.unusedVariables false
variable {g : Fr} {cv : CV}
theorem there_true {R : Rk} {k s : Int} (h : thereB R k s = true) : (0 ≤ k ∧ k < R.n) ∧ (0 ≤ s ∧ s < R.ns) := by
  simp only [thereB, decide_eq_true_eq] at h; omega
theorem RQ.at {R : Rk} {l1 l2 l3 l4 : Slc} {sl cl : List Slc} {cs : List Int} (h : RQ R l1 l2 l3 l4 sl cl cs) {k s : Int} (ht : thereB R k s = true) :
    ∃ i : Nat, i < R.n * R.ns ∧ i = k.toNat * R.ns + s.toNat ∧ w64 (w64 (k * (R.ns : Int)) + s) = (i : Int) ∧ rlast R i = (R.dk k.toNat).lasts s.toNat ∧ rcach R i = ((R.dk k.toNat).cached s).getD [] ∧ k.toNat < R.n ∧ s.toNat < R.ns := by
  obtain ⟨hk, hs⟩ := there_true ht
  have hd := flat_div (k := k.toNat) (s := s.toNat) (ns := R.ns) (by omega)
  refine ⟨k.toNat * R.ns + s.toNat, flat_lt (by omega) (by omega), rfl, flat_w hk hs h.n17 h.ns4, ?_, ?_, by omega, by omega⟩
  · rw [rlast, hd.1, hd.2]
  · rw [rcach, hd.1, hd.2, show ((s.toNat : Nat) : Int) = s by omega]
end Go.Proofs.Ytldmeimebebllaa
namespace Go.Proofs.Ytldmeimebebllaa
open Go.Mo
set_option linter.unusedVariables false
variable {g : Fr} {cv : CV}
theorem maxI_bnd {c : Int} (h : c < 9223372036854775808) : -1 ≤ maxI c (-1) ∧ maxI c (-1) < 9223372036854775808 := by
  rw [maxI]; split <;> omega
theorem cnt_tick {c : Int} (h : -1 ≤ c ∧ c < 9223372036854775808) : -1 ≤ maxI (w64 (c - 1)) (-1) ∧ maxI (w64 (c - 1)) (-1) < 9223372036854775808 := by
  rw [w64_id (by omega) (by omega), maxI]; split <;> omega
theorem Rk.cok.arm {R : Rk} (h : R.cok) {c : Int} (hc : c < 9223372036854775808) : (R.arm c).cok := ⟨maxI_bnd hc, h.dks⟩
theorem Rk.cok.setD {R : Rk} (h : R.cok) {k : Nat} {D : Dk} (hD : -1 ≤ D.count ∧ D.count < 9223372036854775808) : (R.setD k D).cok := ⟨h.pow, fun j => by
  simp only [Rk.setD]; split
  · exact hD
  · exact h.dks j⟩
theorem Rk.cok.ticked {R : Rk} (h : R.cok) : R.ticked.cok := by
  rw [Rk.ticked]; split
  · exact ⟨h.pow, h.dks⟩
  · exact ⟨cnt_tick h.pow, fun j => cnt_tick (h.dks j)⟩
end Go.Proofs.Ytldmeimebebllaa
namespace Go.Proofs.Ytldmeimebebllaa
open Go.Mo
set_option linter.unusedVariables false
variable {g : Fr} {cv : CV}
theorem Rk.cok.put {R : Rk} (h : R.cok) (k s : Int) (b : List Int) : (R.put k s b).cok := ⟨h.pow, fun j => by
  simp only [Rk.put]; split
  · exact h.dks j
  · exact h.dks j⟩
end Go.Proofs.Ytldmeimebebllaa
namespace Go.Proofs.Ytldmeimebebllaa
open Go.Mo
set_option linter.unusedVariables false
variable {g : Fr} {cv : CV}
theorem RQ.setD {R : Rk} {l1 l2 l3 l4 : Slc} {sl cl sl' cl' : List Slc} {cs : List Int} (h : RQ R l1 l2 l3 l4 sl cl cs) {k : Nat} {D : Dk} (hok : k < R.n → D.ok R.ns) (hf : D.failed = (R.dk k).failed) (hc : D.count = (R.dk k).count) (h1 : sl'.length = R.n * R.ns) (h2 : cl'.length = R.n * R.ns) : RQ (R.setD k D) l1 l2 l3 l4 sl' cl' cs := by
  refine ⟨h1, h2, h.hcs, h.n17, h.ns4, h.hl1, h.hl2, h.hl3, h.hl4, fun j hj => ?_, fun j hj hff => ?_, h.cok.setD (by rw [hc]; exact h.cok.dks k)⟩
  · simp only [Rk.setD]
    split
    · rename_i e; subst e; exact hok hj
    · exact h.ok j hj
  · simp only [Rk.setD] at hff ⊢
    by_cases e : j = k
    · subst e
      rw [if_pos rfl] at hff ⊢
      rw [hc]; exact h.cnt j hj (by rw [← hf]; exact hff)
    · rw [if_neg e] at hff ⊢
      exact h.cnt j hj hff
end Go.Proofs.Ytldmeimebebllaa


namespace Go.Proofs.Ytldmeimebebllaa
open Go.Mo
set_option linter.unusedVariables false
variable {g : Fr} {cv : CV}
def one (v : Int) : List Int := v :: List.replicate 63 0
theorem one_len (v : Int) : (one v).length = 64 := by simp [one]
end Go.Proofs.Ytldmeimebebllaa
namespace Go.Proofs.Ytldmeimebebllaa
open Go.Mo
set_option linter.unusedVariables false
variable {g : Fr} {cv : CV}
structure Wr (R : Rk) (sure : Nat → Int) (last : Nat → Option Int) : Prop where
  calm : Calm R
  n : R.n = 2
  ns : R.ns = 4
  lasts : ∀ j k : Nat, j < 2 → k < 4 → (R.dk j).lasts k = one (sure (j * 4 + k))
  cached : ∀ j k : Nat, j < 2 → k < 4 → (R.dk j).cached (k : Int) = (last (j * 4 + k)).map one
theorem Wr.new : Wr (Rk.new 2 4) (fun _ => 0) (fun _ => none) := ⟨Calm.new 2 4, rfl, rfl, fun _ _ _ _ => rfl, fun _ _ _ _ => rfl⟩
theorem Wr.put {R : Rk} {sure : Nat → Int} {last : Nat → Option Int} (h : Wr R sure last) {i : Nat} (hi : i < 8) (v : Int) :
    R.gate ((i / 4 : Nat) : Int) ((i % 4 : Nat) : Int) (one v).length = 0 ∧ Wr (R.write ((i / 4 : Nat) : Int) ((i % 4 : Nat) : Int) (one v)) sure (fun q => if q = i then some v else last q) := by
  have hw := h.calm.write (k := ((i / 4 : Nat) : Int)) (s := ((i % 4 : Nat) : Int)) (b := one v) (by rw [h.n]; omega) (by rw [h.ns]; omega) (one_len v)
  refine ⟨hw.1, ?_⟩
  rw [hw.2]
  refine ⟨h.calm.put _ _ _, h.n, h.ns, fun j k hj hk => ?_, fun j k hj hk => ?_⟩
  · simp only [Rk.put]
    split
    · exact h.lasts j k hj hk
    · exact h.lasts j k hj hk
  · simp only [Rk.put]
    by_cases hji : j = i / 4
    · rw [if_pos (by omega)]
      by_cases hki : k = i % 4
      · simp only [show (k : Int) = ((i % 4 : Nat) : Int) by omega, if_true]
        rw [if_pos (by omega)]; rfl
      · simp only [show ¬ (k : Int) = ((i % 4 : Nat) : Int) by omega, if_false]
        rw [if_neg (by omega)]
        exact h.cached j k hj hk
    · rw [if_neg (by omega), if_neg (by omega)]
      exact h.cached j k hj hk
theorem Wr.restore {R : Rk} {sure : Nat → Int} {last : Nat → Option Int} (h : Wr R sure last) (ks : List Int) {i : Nat} (hi : i < 8) :
    (R.restore ks).lst ((i / 4 : Nat) : Int) ((i % 4 : Nat) : Int) = one (if keepB ks (rank R i) = true then (last i).getD (sure i) else sure i) ∧ (R.restore ks).lErr ((i / 4 : Nat) : Int) ((i % 4 : Nat) : Int) = 0 := by
  have he : (R.restore ks).lErr ((i / 4 : Nat) : Int) ((i % 4 : Nat) : Int) = 0 := by
    rw [Rk.lErr, if_neg]
    show ¬ (_ ∨ _ ≥ (R.n : Int) ∨ _ ∨ _ ≥ (R.ns : Int))
    rw [h.n, h.ns]; omega
  refine ⟨?_, he⟩
  rw [Rk.lst, if_pos he]
  show (Dk.restored R ks ((i / 4 : Nat) : Int).toNat).lasts ((i % 4 : Nat) : Int).toNat = _
  rw [show ((i / 4 : Nat) : Int).toNat = i / 4 by omega, show ((i % 4 : Nat) : Int).toNat = i % 4 by omega]
  simp only [Dk.restored, Dk.clean, Dk.flushed, h.cached (i / 4) (i % 4) (by omega) (by omega), h.lasts (i / 4) (i % 4) (by omega) (by omega), h.calm.failed, h.ns]
  have h1 : i / 4 * 4 + i % 4 = i := by omega
  have h2 : ((i % 4 : Nat) : Int).toNat = i % 4 := by omega
  rw [h1, h2, h1]
  cases last i with
  | none => simp
  | some v => cases keepB ks (rank R i) <;> simp
end Go.Proofs.Ytldmeimebebllaa
namespace Go.Proofs.Ytldmeimebebllaa
open Go.Mo
set_option linter.unusedVariables false
variable {g : Fr} {cv : CV}
theorem Calm.setD {R : Rk} (h : Calm R) {k : Nat} {D : Dk} (hf : D.failed = false) (hc : D.count = -1) : Calm (R.setD k D) := by
  refine ⟨h.off, h.count, fun j => ?_, fun j => ?_⟩
  · simp only [Rk.setD]; split
    · exact hf
    · exact h.failed j
  · simp only [Rk.setD]; split
    · exact hc
    · exact h.counts j
theorem Wr.reads {R : Rk} {sure : Nat → Int} {last : Nat → Option Int} (h : Wr R sure last) (ks : List Int) {i : Nat} (hi : i < 8) :
    (R.restore ks).rd ((i / 4 : Nat) : Int) ((i % 4 : Nat) : Int) = one (if keepB ks (rank R i) = true then (last i).getD (sure i) else sure i) ∧ (R.restore ks).rdErr ((i / 4 : Nat) : Int) ((i % 4 : Nat) : Int) = 0 := by
  have h1 := h.restore ks hi
  have hr : ¬ (((i / 4 : Nat) : Int) < 0 ∨ ((i / 4 : Nat) : Int) ≥ ((R.restore ks).n : Int) ∨ ((i % 4 : Nat) : Int) < 0 ∨ ((i % 4 : Nat) : Int) ≥ ((R.restore ks).ns : Int)) := by
    show ¬ (_ ∨ _ ≥ (R.n : Int) ∨ _ ∨ _ ≥ (R.ns : Int))
    rw [h.n, h.ns]; omega
  have he : (R.restore ks).rdErr ((i / 4 : Nat) : Int) ((i % 4 : Nat) : Int) = 0 := by
    rw [Rk.rdErr, if_neg (by simp [Rk.restore]), if_neg hr, if_neg]
    show ¬ (R.dk _).failed = true
    simp [h.calm.failed]
  refine ⟨?_, he⟩
  rw [← h1.1, Rk.rd, if_pos he, Rk.lst, if_pos h1.2]
  rfl
end Go.Proofs.Ytldmeimebebllaa
namespace Go.Proofs.Ytldmeimebebllaa
open Go.Mo
set_option linter.unusedVariables false
variable {g : Fr} {cv : CV}
structure Pw (R : Rk) (N : Int) (i : Nat) : Prop where
  n : R.n = 1
  ns : R.ns = 2
  failed : (R.dk 0).failed = false
  count : (R.dk 0).count = -1
  on : (i : Int) ≤ N → R.off = false ∧ R.count = N - i
  off : N < i → R.off = true
theorem Pw.new {N : Int} (h : 0 ≤ N) : Pw ((Rk.new 1 2).arm N) N 0 := ⟨rfl, rfl, rfl, rfl, fun _ => ⟨rfl, by show maxI N (-1) = _; rw [maxI, if_neg (by omega)]; simp⟩, fun h' => by omega⟩
theorem Pw.step {R : Rk} {N : Int} {i : Nat} (h : Pw R N i) (hi : i < 1000) (hN : N < 9223372036854775808) {s : Int} (hs : 0 ≤ s ∧ s < 2) :
    R.gate 0 s 64 = (if (i : Int) < N then 0 else 12) ∧ Pw (R.gated 0 s 64) N (i + 1) := by
  have hr : ¬ ((0 : Int) < 0 ∨ (0 : Int) ≥ R.n ∨ s < 0 ∨ s ≥ R.ns) := by rw [h.n, h.ns]; omega
  by_cases h1 : (i : Int) ≤ N
  · obtain ⟨ho, hc⟩ := h.on h1
    have hgd : R.gated 0 s 64 = R.ticked := gated_in ho (by rw [h.n]; omega) (by rw [h.ns]; omega)
    have ho' : ¬ R.off = true := by simp [ho]
    rw [hgd]
    by_cases h2 : (i : Int) = N
    · have hc0 : R.count = 0 := by omega
      refine ⟨?_, ?_⟩
      · rw [Rk.gate, if_neg ho', if_neg hr, if_neg (by omega), if_pos hc0, if_neg (by omega)]
      · rw [Rk.ticked, if_pos hc0]
        exact ⟨h.n, h.ns, h.failed, h.count, fun h' => by omega, fun _ => rfl⟩
    · have hc0 : ¬ R.count = 0 := by omega
      have ht : R.ticked = { R with count := maxI (w64 (R.count - 1)) (-1), dk := fun j => (R.dk j).tick } := by rw [Rk.ticked, if_neg hc0]
      have hd : (R.dk 0).tick = R.dk 0 := tickD h.count
      refine ⟨?_, ?_⟩
      · rw [Rk.gate, if_neg ho', if_neg hr, if_neg (by omega), if_neg hc0, ht]
        show (if ((R.dk 0).tick).failed = true then (13 : Int) else 0) = _
        rw [hd, h.failed, if_neg (by simp), if_pos (by omega)]
      · rw [ht]
        refine ⟨h.n, h.ns, ?_, ?_, fun h' => ⟨ho, ?_⟩, fun h' => by omega⟩
        · show ((R.dk 0).tick).failed = false
          rw [hd, h.failed]
        · show ((R.dk 0).tick).count = -1
          rw [hd, h.count]
        · show maxI (w64 (R.count - 1)) (-1) = _
          rw [hc, w64_id (by omega) (by omega), maxI, if_neg (by omega)]; omega
  · have ho := h.off (by omega)
    refine ⟨?_, ?_⟩
    · rw [Rk.gate, if_pos ho, if_neg (by omega)]
    · rw [Rk.gated, if_pos (.inl ho)]
      exact ⟨h.n, h.ns, h.failed, h.count, fun h' => by omega, fun _ => ho⟩
theorem Pw.write {R : Rk} {N : Int} {i : Nat} (h : Pw R N i) (hi : i < 1000) (hN : N < 9223372036854775808) {s : Int} (hs : 0 ≤ s ∧ s < 2) {b : List Int} (hb : b.length = 64) :
    R.gate 0 s b.length = (if (i : Int) < N then 0 else 12) ∧ Pw (R.write 0 s b) N (i + 1) := by
  have hp := h.step hi hN hs
  rw [hb]
  refine ⟨hp.1, ?_⟩
  rw [Rk.write, hb]
  split
  · obtain ⟨a1, a2, a3, a4, a5, a6⟩ := hp.2
    refine ⟨a1, a2, ?_, ?_, a5, a6⟩
    · exact a3
    · exact a4
  · exact hp.2
end Go.Proofs.Ytldmeimebebllaa
namespace Go.Proofs.Ytldmeimebebllaa
open Go.Mo
set_option linter.unusedVariables false
variable {g : Fr} {cv : CV}
theorem slotV_in (m : G3) (i : Nat) (hi : i < 3) : (slotV (3, 3, 12) m i).2 = true ∧ (slotV (3, 3, 12) m i).1 = (if m.2.2 ≠ 0 ∧ m.2.1 = i then 3 else (i : Int)) := by
  have h : ¬ ((i : Int) < 0 ∨ (i : Int) ≥ 3) := by omega
  simp only [slotV]
  rw [if_neg h]
  split <;> exact ⟨rfl, rfl⟩
theorem slot_range (m : G3) (i : Nat) (hi : i < 3) : 0 ≤ (slotV (3, 3, 12) m i).1 ∧ (slotV (3, 3, 12) m i).1 < 4 := by
  rw [(slotV_in m i hi).2]
  split <;> omega
end Go.Proofs.Ytldmeimebebllaa

namespace Go.Proofs.Ytldmeimebebllaa
open Go.Mo
set_option linter.unusedVariables false
variable {g : Fr} {cv : CV}
structure CallA where
  what : Int
  disk : Int
  n : Int
  ds : Slc
  data : List Int
  ks : Slc
  keeps : List Int
def CallA.cells (c : CallA) : List Value := [.int .i64 c.what, .int .i64 c.disk, .int .i64 c.n, .slice c.ds.base c.ds.len c.ds.cap, .slice c.ks.base c.ks.len c.ks.cap]
def CallA.t (c : CallA) : Int × Int × Int × Slc × Slc := (c.what, c.disk, c.n, c.ds, c.ks)
structure CallA.ok (c : CallA) : Prop where
  n : c.n < 9223372036854775808
  data : c.data.length ≤ 140737488355328
  keeps : c.keeps.length ≤ 140737488355328
end Go.Proofs.Ytldmeimebebllaa
namespace Go.Proofs.Ytldmeimebebllaa
open Go.Mo
set_option linter.unusedVariables false
variable {g : Fr} {cv : CV}
structure Rk.good (R : Rk) : Prop where
  ok : ∀ j, j < R.n → (R.dk j).ok R.ns
theorem Rk.good.rd {R : Rk} (h : R.good) (k s : Int) : (R.rd k s).length ≤ 64 := by
  rw [Rk.rd]
  split
  · rename_i he
    have hx : ¬ R.off = true ∧ ¬ (k < 0 ∨ k ≥ R.n ∨ s < 0 ∨ s ≥ R.ns) := by
      unfold Rk.rdErr at he
      by_cases ho : R.off = true
      · rw [if_pos ho] at he; cases he
      · rw [if_neg ho] at he
        refine ⟨ho, fun hr => ?_⟩
        rw [if_pos hr] at he; cases he
    have hok := h.ok k.toNat (by omega)
    unfold Dk.sec
    cases hc : (R.dk k.toNat).cached s with
    | some b => have := (hok.2 s b hc).1; simp only; omega
    | none => have := hok.1 s.toNat (by omega); simp only; omega
  · simp
theorem Rk.good.lst {R : Rk} (h : R.good) (k s : Int) : (R.lst k s).length ≤ 64 := by
  rw [Rk.lst]
  split
  · rename_i he
    have hx : ¬ (k < 0 ∨ k ≥ R.n ∨ s < 0 ∨ s ≥ R.ns) := by
      intro hr
      rw [Rk.lErr, if_pos hr] at he; cases he
    have := (h.ok k.toNat (by omega)).1 s.toNat (by omega)
    omega
  · simp
end Go.Proofs.Ytldmeimebebllaa
namespace Go.Proofs.Ytldmeimebebllaa
open Go.Mo
set_option linter.unusedVariables false
variable {g : Fr} {cv : CV}
structure CallB where
  what : Int
  slot : Int
  n : Int
  ds : Slc
  data : List Int
  mem : G3
def CallB.cells (c : CallB) : List Value := [.int .i64 c.what, .int .i64 c.slot, .int .i64 c.n, .slice c.ds.base c.ds.len c.ds.cap, .int .i64 c.mem.1, .int .i64 c.mem.2.1, .int .i64 c.mem.2.2]
def CallB.t (c : CallB) : Int × Int × Int × Slc × Int × Int × Int := (c.what, c.slot, c.n, c.ds, c.mem.1, c.mem.2.1, c.mem.2.2)
structure CallB.ok (c : CallB) : Prop where
  n : c.n < 9223372036854775808
  data : c.data.length ≤ 140737488355328
end Go.Proofs.Ytldmeimebebllaa
namespace Go.Proofs.Ytldmeimebebllaa
open Go.Mo
set_option linter.unusedVariables false
variable {g : Fr} {cv : CV}
def Byts (b : List Int) : Prop := ∀ n ∈ b, 0 ≤ n ∧ n < 256
theorem Byts.app {a b : List Int} (ha : Byts a) (hb : Byts b) : Byts (a ++ b) := fun n hn => (List.mem_append.1 hn).elim (ha n) (hb n)
theorem Byts.take {b : List Int} (h : Byts b) (k : Nat) : Byts (b.take k) := fun n hn => h n (List.mem_of_mem_take hn)
theorem Byts.drop {b : List Int} (h : Byts b) (k : Nat) : Byts (b.drop k) := fun n hn => h n (List.mem_of_mem_drop hn)
theorem Byts.get {b : List Int} (h : Byts b) {k : Nat} (hk : k < b.length) : 0 ≤ b[k] ∧ b[k] < 256 := h _ (List.getElem_mem hk)
theorem Byts.rep (k : Nat) : Byts (List.replicate k 0) := fun n hn => by
  rw [List.mem_replicate] at hn; omega
theorem byt_sub {s : Slc} {b : List Int} {l h : Nat} (h1 : l ≤ h) (hh : h ≤ s.len) : Ent (byt s b) (byt (subS 1 s l h) ((b.drop l).take (h - l))) := Ent.trans (rsl_sub h1 hh) (Ent.of_eq (by simp [byt, bv, List.map_take, List.map_drop]))
theorem subS_len (z : Nat) (s : Slc) (l h : Nat) : (subS z s l h).len = h - l := rfl
def zx : List Int → List Int → List Int
  | a :: xs, b :: ys => bXor .u8 a b :: zx xs ys
  | xs, [] => xs
  | [], _ => []
theorem zx_nil (a : List Int) : zx a [] = a := by cases a <;> rfl
theorem nil_zx (b : List Int) : zx [] b = [] := by cases b <;> rfl
theorem zx_len : ∀ (a b : List Int), (zx a b).length = a.length
  | [], b => by rw [nil_zx]
  | a :: xs, [] => rfl
  | a :: xs, b :: ys => by simp [zx, zx_len xs ys]
def xorB (a b : List Int) : List Int := if a.length < b.length then zx b a else zx a b
end Go.Proofs.Ytldmeimebebllaa
namespace Go.Proofs.Ytldmeimebebllaa
open Go.Mo
set_option linter.unusedVariables false
variable {g : Fr} {cv : CV}
def dg (n : Int) (j : Nat) : Int := n / (256 ^ j : Nat) % 256
theorem dg_rng (n : Int) (j : Nat) : 0 ≤ dg n j ∧ dg n j < 256 := by unfold dg; omega
theorem dg_eq {n : Int} (hn : 0 ≤ n) {j : Nat} (hj : j < 4) : IntKind.wrap .u8 (bShr .i64 n (w64 (8 * (j : Int)))) = dg n j := by
  have hw : w64 (8 * (j : Int)) = 8 * (j : Int) := w64_id (by omega) (by omega)
  rw [hw]
  have : ∀ k : Nat, k < 64 → n.fdiv (2 ^ k) = n / (2 ^ k) := fun k _ => by
    rw [Int.fdiv_eq_ediv_of_nonneg _ (Int.pow_nonneg (by decide))]
  have hmin : min (8 * (j : Int)).toNat IntKind.i64.bits = 8 * j := by
    have : IntKind.i64.bits = 64 := rfl
    rw [this]; omega
  unfold bShr dg
  rw [hmin, this _ (by omega)]
  have h2 : ((2 : Int) ^ (8 * j)) = ((256 ^ j : Nat) : Int) := by
    rw [Int.pow_mul]; simp
  rw [h2]
  simp [IntKind.wrap, IntKind.bits, IntKind.signed]
def putL (w : Nat) (n : Int) : List Int := (List.range w).map (dg n)
theorem putL_len (w : Nat) (n : Int) : (putL w n).length = w := by simp [putL]
theorem putL_byts (w : Nat) (n : Int) : Byts (putL w n) := fun x hx => by
  simp only [putL, List.mem_map] at hx
  obtain ⟨j, _, rfl⟩ := hx
  exact dg_rng n j
def fitsN (w : Nat) (n : Int) : Prop := 0 ≤ n ∧ n < (256 ^ w : Nat)
instance (w : Nat) (n : Int) : Decidable (fitsN w n) := by unfold fitsN; infer_instance
def putB (w : Nat) (n : Int) : List Int := if fitsN w n then putL w n else []
theorem shr_pos {n : Int} (hn : 0 ≤ n) {w : Nat} (hw : w ≤ 4) : decide (bShr .i64 n (w64 (8 * (w : Int))) > 0) = !decide (n < (256 ^ w : Nat)) := by
  have hw2 : w64 (8 * (w : Int)) = 8 * (w : Int) := w64_id (by omega) (by omega)
  rw [hw2]
  have hmin : min (8 * (w : Int)).toNat IntKind.i64.bits = 8 * w := by
    have : IntKind.i64.bits = 64 := rfl
    rw [this]; omega
  unfold bShr
  rw [hmin, Int.fdiv_eq_ediv_of_nonneg _ (Int.pow_nonneg (by decide))]
  have h2 : ((2 : Int) ^ (8 * w)) = ((256 ^ w : Nat) : Int) := by
    rw [Int.pow_mul]; simp
  rw [h2]
  have hp : (0 : Int) < ((256 ^ w : Nat) : Int) := by exact_mod_cast Nat.pow_pos (by decide)
  generalize ((256 ^ w : Nat) : Int) = M at *
  by_cases h : n < M
  · rw [decide_eq_true h, Int.ediv_eq_zero_of_lt hn h]; rfl
  · have : 1 ≤ n / M := Int.le_ediv_of_mul_le hp (by omega)
    have h3 : n / M > 0 := by omega
    simp [h, h3]
theorem bv_map_set {w i : Nat} (f f' : Nat → Int) (hi : i < w) (h : ∀ j, j ≠ i → f' j = f j) : (bv ((List.range w).map f)).set i (.int .u8 (f' i)) = bv ((List.range w).map f') := by
  apply List.ext_getElem?
  intro j
  simp only [bv, List.getElem?_set, List.getElem?_map, List.length_map, List.length_range]
  by_cases hj : i = j
  · subst hj; simp [hi]
  · rw [if_neg hj]
    by_cases hjw : j < w
    · rw [List.getElem?_range hjw]; simp [h j (fun e => hj e.symm)]
    · simp [List.getElem?_eq_none, Nat.le_of_not_lt hjw]
theorem zs_u8 (w : Nat) : zs [.int .u8 0] w = bv ((List.range w).map fun _ => 0) := by
  simp [zs, bv, Nat.mod_one]
theorem bits_Put_spec {H : HP} (w : Nat) (n : Int) (h1 : 1 ≤ w) (h4 : w ≤ 4) : wps g H (bits_Put w n) (fun s => H * own 1 s (bv (putB w n))) := by
  unfold bits_Put
  refine wps_val (v := false) (wps_ite (fun h => absurd h (by simp; omega)) (fun _ => wps_pure (ent_prr (by simp; omega) (Ent.refl _)))) ?_
  by_cases hn : 0 ≤ n
  rotate_left
  · have hf : ¬ fitsN w n := fun h => hn h.1
    rw [putB, if_neg hf]
    refine wps_val (v := true) (wps_ite (fun h => absurd h (by decide)) (fun _ => wps_pure (ent_prr (by simp; omega) (Ent.refl _)))) ?_
    refine wps_val (v := true) (wps_ite (fun _ => wps_pure (ent_val rfl)) (fun h => absurd rfl h)) ?_
    exact wps_ite (fun _ => wps_pure (ent_own0 (Ent.refl _))) (fun h => absurd rfl h)
  refine wps_val (v := false) (wps_ite (fun h => absurd h (by decide)) (fun _ => wps_pure (ent_prr (by simp; omega) (Ent.refl _)))) ?_
  refine wps_val (v := !decide (n < (256 ^ w : Nat))) (wps_ite (fun h => absurd h (by decide)) (fun _ => wps_assert (by rw [w64_id] <;> omega) (wps_pure (ent_prr (shr_pos hn h4) (Ent.refl _))))) ?_
  by_cases hm : n < (256 ^ w : Nat)
  rotate_left
  · have hf : ¬ fitsN w n := fun h => hm h.2
    rw [putB, if_neg hf, decide_eq_false hm]
    exact wps_ite (fun _ => wps_pure (ent_own0 (Ent.refl _))) (fun h => absurd rfl h)
  rw [show putB w n = putL w n from if_pos ⟨hn, hm⟩, decide_eq_true hm]
  refine wps_ite (fun h => absurd h (by decide)) (fun _ => ?_)
  refine wps_make w rfl (by omega) fun b => ?_
  refine wps_loop (fun st => ex fun i : Nat => pr (st = (i : Int) ∧ i ≤ w) * H * pc b (bv ((List.range w).map fun j => if j < i then dg n j else 0))) (fun st => (w - st).toNat) ?_ fun st => ?_
  · refine ent_ex 0 (ent_pickC ?_ (Ent.trans (ent_pr ⟨rfl, by omega⟩) (Ent.of_eq rfl)))
    rw [zs_u8]; simp
  · refine wps_ex fun i => ?_
    rw [star_assoc]
    refine wps_pr fun ⟨hi, hn2⟩ => ?_
    refine wps_ite (fun hc => ?_) (fun hc => ?_)
    · have hlt : i < w := by simp only [decide_eq_true_eq] at hc; omega
      refine wps_assert (by rw [w64_id] <;> omega) ?_
      refine wps_idx i rfl hi hlt ?_
      refine wps_st (by simp [bv]; omega) (wps_pure ?_)
      rw [hi, dg_eq hn (by omega)]
      refine ent_prr (by rw [range_add1 rfl (by omega)]; omega) (ent_ex (i + 1) (ent_pickC ?_ (Ent.trans (ent_pr ⟨range_add1 rfl (by omega), by omega⟩) (Ent.of_eq rfl))))
      rw [Nat.zero_add, Nat.mul_one]
      have := bv_map_set (w := w) (i := i) (fun j => if j < i then dg n j else 0) (fun j => if j < i + 1 then dg n j else 0) hlt (fun j hj => by
        have : j < i + 1 ↔ j < i := by omega
        simp [this])
      simpa using this
    · have hie : i = w := by simp only [decide_eq_true_eq] at hc; omega
      subst hie
      refine wps_mapR (wps_pure ?_)
      refine Ent.starr ?_
      have : (bv ((List.range i).map fun j => if j < i then dg n j else 0)) = bv (putL i n) := by
        unfold putL
        congr 1
        refine List.map_congr_left fun j hj => ?_
        rw [if_pos (by simpa using hj)]
      rw [this]
      exact pc_own (by simp [bv, putL])
end Go.Proofs.Ytldmeimebebllaa
namespace Go.Proofs.Ytldmeimebebllaa
open Go.Mo
set_option linter.unusedVariables false
variable {g : Fr} {cv : CV}
theorem bl (b : List Int) : (bv b).length = b.length := by simp [bv]
def padL (b : List Int) (n : Nat) : List Int := b ++ List.replicate (n - b.length) 0
theorem bits_Pad_spec {H : HP} {s : Slc} {b : List Int} (n : Nat) (hs : Ent H (byt s b)) (hn : n ≤ 65536) :
    wps g H (bits_Pad s n) (fun x => if b.length ≤ n then pr (x.2 = true) * H * own 1 x.1 (bv (padL b n)) else pr (x.2 = false) * H) := by
  unfold bits_Pad
  refine wps_fact (len_of hs) fun hl => ?_
  by_cases h : b.length ≤ n
  · simp only [h, if_true]
    refine wps_val (v := false) (wps_ite (fun h => absurd h (by simp; omega)) (fun _ => wps_pure (ent_prr (by simp; omega) (Ent.refl _)))) ?_
    refine wps_ite (fun h => absurd h (by decide)) (fun _ => ?_)
    refine wps_make n rfl (by omega) fun c => ?_
    refine wps_copyP (off := 0) (Ent.trans (ent_left _ _) hs) (by simp [bv, Value.oneCell']) (by simp [zs]) ?_
    refine wps_pure ?_
    rw [star_assoc]
    refine ent_prr rfl ?_
    refine Ent.starr ?_
    have hm : (bv b).take (min s.len n * 1) = bv b := List.take_of_length_le (by simp [bv]; omega)
    have e : ovw (zs [.int .u8 0] n) 0 ((bv b).take (min s.len n * 1)) = bv (padL b n) := by
      rw [hm, ovw, zs_u8]
      simp [padL, bv]
      apply List.ext_getElem?
      intro j
      simp [List.getElem?_map, List.getElem?_drop, List.getElem?_replicate]
      by_cases hj : j < n - b.length
      · rw [List.getElem?_range (by omega)]; simp [hj]
      · rw [List.getElem?_eq_none (by simp; omega)]; simp [hj]
    rw [e]
    exact pc_own (by simp [bv, padL]; omega)
  · simp only [h, if_false]
    refine wps_val (v := true) ?_ ?_
    · by_cases h2 : (n : Int) > 65536
      · exact absurd h2 (by omega)
      · exact wps_ite (fun h => absurd h (by simp; omega)) (fun _ => wps_pure (ent_prr (by simp; omega) (Ent.refl _)))
    · exact wps_ite (fun _ => wps_pure (ent_pr rfl)) (fun h => absurd rfl h)
end Go.Proofs.Ytldmeimebebllaa
namespace Go.Proofs.Ytldmeimebebllaa
open Go.Mo
set_option linter.unusedVariables false
variable {g : Fr} {cv : CV}
def encL (seq owner index : Int) (data : List Int) : List Int := putL 4 seq ++ putL 2 owner ++ putL 2 index ++ padL data 56
def encOk (seq owner index : Int) (data : List Int) : Prop := fitsN 4 seq ∧ fitsN 2 owner ∧ fitsN 2 index ∧ data.length ≤ 56
instance (seq owner index : Int) (data : List Int) : Decidable (encOk seq owner index data) := by unfold encOk; infer_instance
theorem encL_len {seq owner index : Int} {data : List Int} (h : data.length ≤ 56) : (encL seq owner index data).length = 64 := by
  simp [encL, putL_len, padL]; omega
theorem padL_byts {b : List Int} (h : Byts b) (n : Nat) : Byts (padL b n) := h.app (Byts.rep _)
theorem encL_byts {seq owner index : Int} {data : List Int} (h : Byts data) : Byts (encL seq owner index data) := (((putL_byts 4 seq).app (putL_byts 2 owner)).app (putL_byts 2 index)).app (padL_byts h 56)
theorem putB_len (w : Nat) (n : Int) : (putB w n).length = if fitsN w n then w else 0 := by
  unfold putB; split <;> simp [putL_len]
def getL : List Int → Int
  | [] => 0
  | b :: l => b + 256 * getL l
theorem getL_app : ∀ (l : List Int) (c : Int), getL (l ++ [c]) = getL l + (256 ^ l.length : Nat) * c
  | [], c => by simp [getL]
  | b :: l, c => by
    simp only [List.cons_append, getL, getL_app l c, List.length_cons, Nat.pow_succ]
    rw [Int.natCast_mul]
    generalize ((256 ^ l.length : Nat) : Int) = M
    have : M * ((256 : Nat) : Int) * c = 256 * (M * c) := by rw [Int.mul_comm M, Int.mul_assoc]; rfl
    omega
theorem getL_rng : ∀ {l : List Int}, Byts l → 0 ≤ getL l ∧ getL l < (256 ^ l.length : Nat)
  | [], _ => by simp [getL]
  | b :: l, h => by
    have h1 := h b (by simp)
    have h2 := getL_rng (l := l) fun x hx => h x (by simp [hx])
    simp only [getL, List.length_cons, Nat.pow_succ]
    rw [Int.natCast_mul]
    generalize ((256 ^ l.length : Nat) : Int) = M at *
    omega
theorem or_shl {n c : Int} {i : Nat} (hi : i < 4) (h0 : 0 ≤ n ∧ n < (256 ^ i : Nat)) (hc : 0 ≤ c ∧ c < 256) : bOr .i64 n (bShl .i64 (w64 c) (w64 (8 * (i : Int)))) = n + (256 ^ i : Nat) * c := by
  rw [w64_id (n := c) (by omega) (by omega), w64_id (n := 8 * (i : Int)) (by omega) (by omega)]
  obtain ⟨a, rfl⟩ : ∃ a : Nat, n = (a : Int) := ⟨n.toNat, by omega⟩
  obtain ⟨b, rfl⟩ : ∃ b : Nat, c = (b : Int) := ⟨c.toNat, by omega⟩
  have hmin : min (8 * (i : Int)).toNat IntKind.i64.bits = 8 * i := by
    have : IntKind.i64.bits = 64 := rfl
    rw [this]; omega
  have h256 : (256 : Nat) ^ i = 2 ^ (8 * i) := by rw [Nat.pow_mul]
  have hle : (256 : Nat) ^ i ≤ 256 ^ 3 := Nat.pow_le_pow_right (by decide) (by omega)
  have hb : b * 256 ^ i ≤ 255 * 256 ^ 3 := Nat.mul_le_mul (by omega) hle
  have hsh : bShl .i64 (b : Int) (8 * (i : Int)) = ((b * 256 ^ i : Nat) : Int) := by
    unfold bShl
    rw [hmin]
    have h2 : (b : Int) * 2 ^ (8 * i) = ((b * 256 ^ i : Nat) : Int) := by rw [h256, Int.natCast_mul, Int.natCast_pow]; rfl
    rw [h2]
    exact wrap_i64 (by omega) (by omega)
  rw [hsh]
  have ha : a < 256 ^ i := by exact_mod_cast h0.2
  unfold bOr
  have e1 : (BitVec.ofInt IntKind.i64.bits (a : Int)).toNat = a := by
    show (BitVec.ofInt 64 _).toNat = _
    rw [BitVec.toNat_ofInt]; omega
  have e2 : (BitVec.ofInt IntKind.i64.bits ((b * 256 ^ i : Nat) : Int)).toNat = b * 256 ^ i := by
    show (BitVec.ofInt 64 _).toNat = _
    rw [BitVec.toNat_ofInt]; omega
  rw [BitVec.toNat_or, e1, e2]
  have e3 : a ||| b * 256 ^ i = a + 256 ^ i * b := by
    rw [Nat.or_comm, Nat.mul_comm, h256, ← Nat.two_pow_add_eq_or_of_lt (by rw [← h256]; exact ha)]; omega
  rw [e3, wrap_i64]
  · rw [Int.natCast_add, Int.natCast_mul]
  · omega
  · rw [Nat.mul_comm] at hb
    have : (256 ^ i : Nat) * b + a < 4294967296 := by omega
    omega
def getB (b : List Int) (at' w : Nat) : Int := getL ((b.drop at').take w)
theorem bits_Get_val {H : HP} {s : Slc} {b : List Int} (p w : Nat) (hs : Ent H (byt s b)) (hb : Byts b) (h1 : 1 ≤ w) (h4 : w ≤ 4) (hp : p + w ≤ b.length) (hl : b.length ≤ 1099511627776) : Val g H (bits_Get s p w) (getB b p w, true) := by
  unfold bits_Get
  refine wps_fact (len_of hs) fun hls => ?_
  refine wps_fact (cap_of hs) fun hcs => ?_
  refine wps_val (v := false) (wps_ite (fun h => absurd h (by simp; omega)) (fun _ => wps_pure (ent_prr (by simp <;> omega) (Ent.refl _)))) ?_
  refine wps_val (v := false) (wps_ite (fun h => absurd h (by decide)) (fun _ => wps_pure (ent_prr (by simp <;> omega) (Ent.refl _)))) ?_
  refine wps_val (v := false) (wps_ite (fun h => absurd h (by decide)) (fun _ => wps_pure (ent_prr (by simp <;> omega) (Ent.refl _)))) ?_
  refine wps_val (v := false) (wps_ite (fun h => absurd h (by decide)) (fun _ => wps_pure (ent_prr (decide_eq_false (by rw [w64_id] <;> omega)) (Ent.refl _)))) ?_
  refine wps_ite (fun h => absurd h (by decide)) (fun _ => ?_)
  refine wps_slice p (p + w) rfl (by rw [show ((some (w64 ((p : Int) + (w : Int)))).getD (s.len : Int)) = w64 ((p : Int) + w) from rfl, w64_id] <;> omega) (by omega) (by omega) ?_
  have hsub : Ent H (byt (subS 1 s p (p + w)) ((b.drop p).take w)) := by
    have := Ent.trans hs (byt_sub (l := p) (h := p + w) (by omega) (by omega))
    rwa [show p + w - p = w by omega] at this
  have hsl : (subS 1 s p (p + w)).len = w := by rw [subS_len]; omega
  generalize subS 1 s p (p + w) = t at *
  have hxl : ((b.drop p).take w).length = w := by simp; omega
  have hxb : Byts ((b.drop p).take w) := (hb.drop p).take w
  unfold getB
  generalize (b.drop p).take w = x at *
  refine wps_loop (fun st => ex fun i : Nat => pr (st.2 = (i : Int) ∧ i ≤ w ∧ st.1 = getL (x.take i)) * H) (fun st => (w - st.2).toNat) (ent_ex 0 (ent_prr ⟨rfl, by omega, by simp [getL]⟩ (Ent.refl _))) fun st => ?_
  refine wps_ex fun i => wps_pr fun ⟨hi, hin, hv⟩ => ?_
  refine wps_ite (fun hc => ?_) (fun hc => ?_)
  · have hc1 := of_decide_eq_true hc
    rw [hsl] at hc1
    have hlt : i < x.length := by omega
    refine wps_rd i x[i] hsub hi (by simp [bv, List.getElem?_eq_getElem hlt]) ?_
    refine wps_assert (by rw [hi, w64_id] <;> omega) ?_
    have hr := getL_rng (hxb.take i)
    rw [List.length_take, Nat.min_eq_left (by omega)] at hr
    refine wps_pure (ent_prr (by rw [range_add1 hi (by omega)]; (try dsimp only); omega) (ent_ex (i + 1) (ent_prr ⟨range_add1 hi (by omega), by omega, ?_⟩ (Ent.refl _))))
    rw [hv, hi, or_shl (by omega) hr (hxb.get hlt), List.take_add_one, List.getElem?_eq_getElem hlt]
    show _ = getL (x.take i ++ [x[i]])
    rw [getL_app, List.length_take, Nat.min_eq_left (by omega)]
  · have hie : i = w := by
      have hc1 : ¬ (st.2 < ((t.len : Nat) : Int)) := fun h => hc (decide_eq_true h)
      rw [hsl] at hc1; omega
    rw [hie, List.take_of_length_le (by omega)] at hv
    refine wps_mapR (wps_pure (ent_prr ?_ (Ent.refl _)))
    rw [hv]
end Go.Proofs.Ytldmeimebebllaa
namespace Go.Proofs.Ytldmeimebebllaa
open Go.Mo
set_option linter.unusedVariables false
variable {g : Fr} {cv : CV}
def headOf (b : List Int) : G3 := if b.length = 64 then (getB b 0 4, getB b 4 2, getB b 6 2) else (0, 0, 0)
def parOk (ls : List (List Int)) : Prop := ls ≠ [] ∧ ∀ b ∈ ls, b.length = 64 ∧ b.take 4 = (ls.headD []).take 4
instance (ls : List (List Int)) : Decidable (parOk ls) := by unfold parOk; infer_instance
def parSum (ls : List (List Int)) : List Int := ls.foldl (fun acc b => xorB acc (b.drop 4)) []
def parL (ls : List (List Int)) : Option (List Int) := if parOk ls then some ((ls.headD []).take 4 ++ parSum ls) else none
end Go.Proofs.Ytldmeimebebllaa


namespace Go.Proofs.Ytldmeimebebllaa
open Go.Mo
set_option linter.unusedVariables false
variable {g : Fr} {cv : CV}
structure BlkA where
  owner : Int
  index : Int
  ds : Slc
  data : List Int
def BlkA.cells (c : BlkA) : List Value := [.int .i64 c.owner, .int .i64 c.index, .slice c.ds.base c.ds.len c.ds.cap]
def BlkA.t (c : BlkA) : Int × Int × Slc := (c.owner, c.index, c.ds)
def BlkA.nil : BlkA := ⟨0, 0, ⟨none, 0, 0⟩, []⟩
structure BlkA.ok (c : BlkA) : Prop where
  byts : Byts c.data
  len : c.data.length ≤ 140737488355328
  ob : c.owner < 9223372036854775808
  ib : c.index < 9223372036854775808
def blkAt (l : List BlkA) (k : Nat) : BlkA := l.getD k BlkA.nil
def encAt (seq : Int) (l : List BlkA) (k : Nat) : List Int := encL seq (blkAt l k).owner (blkAt l k).index (blkAt l k).data
def encAll (seq : Int) (l : List BlkA) (n : Nat) : Bool := (List.range n).all fun k => decide (encOk seq (blkAt l k).owner (blkAt l k).index (blkAt l k).data)
theorem encAll_iff {seq : Int} {l : List BlkA} {n : Nat} : encAll seq l n = true ↔ ∀ k, k < n → encOk seq (blkAt l k).owner (blkAt l k).index (blkAt l k).data := by
  simp [encAll]
end Go.Proofs.Ytldmeimebebllaa
namespace Go.Proofs.Ytldmeimebebllaa
open Go.Mo
set_option linter.unusedVariables false
variable {g : Fr} {cv : CV}
def rowL (q : G3) (seq : Int) (l : List BlkA) (r : Nat) : List (List Int) := (List.range (q.1 - 1).toNat).map fun i => encAt seq l (r * (q.1 - 1).toNat + i)
def datAt (q : G3) (seq : Int) (l : List BlkA) (r i : Nat) : List Int := if i < (q.1 - 1).toNat then encAt seq l (r * (q.1 - 1).toNat + i) else (parL (rowL q seq l r)).getD []
end Go.Proofs.Ytldmeimebebllaa
namespace Go.Proofs.Ytldmeimebebllaa
open Go.Mo
set_option linter.unusedVariables false
variable {g : Fr} {cv : CV}
def Dk.bys (D : Dk) : Prop := (∀ k, Byts (D.lasts k)) ∧ ∀ j b, D.cached j = some b → Byts b
def Rk.bys (R : Rk) : Prop := ∀ j, (R.dk j).bys
theorem Dk.bys.sec {D : Dk} (h : D.bys) (s : Int) : Byts (D.sec s) := by
  unfold Dk.sec
  cases hc : D.cached s with
  | some b => exact h.2 s b hc
  | none => exact h.1 _
theorem Rk.bys.rd {R : Rk} (h : R.bys) (k s : Int) : Byts (R.rd k s) := by
  unfold Rk.rd; split
  · exact (h _).sec s
  · exact fun n hn => by simp at hn
def brdE (q m : G3) (R : Rk) (s : Int × Int) : Int := if (slotV q m s.1).2 then R.rdErr (slotV q m s.1).1 s.2 else 11
def brd (q m : G3) (R : Rk) (s : Int × Int) : List Int := if (slotV q m s.1).2 then R.rd (slotV q m s.1).1 s.2 else []
def goodV (q m : G3) (R : Rk) (s : Int × Int) (seq : Int) : List Int × Bool := if brdE q m R s = 0 then (brd q m R s, (headOf (brd q m R s)).1 == seq) else ([], false)
end Go.Proofs.Ytldmeimebebllaa

namespace Go.Proofs.Ytldmeimebebllaa
open Go.Mo
set_option linter.unusedVariables false
variable {g : Fr} {cv : CV}
def takeP (b : List Nat) : HP := match b with | [] => emp | [D] => po D (.deferred (some [])) | _ => pr False
theorem parL_byts {ls : List (List Int)} (h : ∀ b ∈ ls, Byts b) : Byts ((parL ls).getD []) := by
  have hx : ∀ (a b : List Int), Byts a → Byts b → Byts (zx a b) := by
    intro a
    induction a with
    | nil => intro b _ _; rw [nil_zx]; exact fun n hn => by simp at hn
    | cons x xs ih =>
      intro b ha hb
      cases b with
      | nil => exact ha
      | cons y ys =>
        intro n hn
        simp only [zx, List.mem_cons] at hn
        rcases hn with rfl | hn
        · unfold bXor
          have hw : ∀ v : Int, 0 ≤ IntKind.u8.wrap v ∧ IntKind.u8.wrap v < 256 := fun v => by
            simp [IntKind.wrap, IntKind.bits, IntKind.signed]; omega
          exact hw _
        · exact ih ys (fun n hn => ha n (by simp [hn])) (fun n hn => hb n (by simp [hn])) n hn
  have hs : ∀ (ls : List (List Int)) (a : List Int), Byts a → (∀ b ∈ ls, Byts b) → Byts (ls.foldl (fun acc b => xorB acc (b.drop 4)) a) := by
    intro ls
    induction ls with
    | nil => intro a ha _; exact ha
    | cons b ls ih =>
      intro a ha hb
      rw [List.foldl_cons]
      refine ih _ ?_ (fun c hc => hb c (by simp [hc]))
      unfold xorB
      have hb4 := (hb b (by simp)).drop 4
      split
      · exact hx _ _ hb4 ha
      · exact hx _ _ ha hb4
  unfold parL
  split
  · rename_i hok
    simp only [Option.getD_some]
    refine Byts.app ?_ (hs ls [] (fun n hn => by simp at hn) h)
    cases ls with
    | nil => exact fun n hn => by simp at hn
    | cons a l => exact (h a (by simp)).take 4
  · exact fun n hn => by simp at hn
end Go.Proofs.Ytldmeimebebllaa

namespace Go.Proofs.Ytldmeimebebllaa
open Go.Mo
set_option linter.unusedVariables false
variable {g : Fr} {cv : CV}
theorem getL_putL {n : Int} (hn : 0 ≤ n) : ∀ w : Nat, getL (putL w n) = n % (256 ^ w : Nat)
  | 0 => by simp [putL, getL]
  | w + 1 => by
    have e : putL (w + 1) n = putL w n ++ [dg n w] := by simp [putL, List.range_succ]
    rw [e, getL_app, getL_putL hn w, putL_len]
    obtain ⟨N, rfl⟩ : ∃ N : Nat, n = (N : Int) := ⟨n.toNat, by omega⟩
    have h := Nat.mod_mul (x := N) (a := 256 ^ w) (b := 256)
    unfold dg
    rw [Nat.pow_succ]
    generalize 256 ^ w = M at h ⊢
    have h2 := congrArg (fun k : Nat => (k : Int)) h
    simp only [Int.natCast_emod, Int.natCast_add, Int.natCast_mul, Int.natCast_ediv] at h2
    rw [Int.natCast_mul]
    exact h2.symm
theorem getL_fits {n : Int} {w : Nat} (h : fitsN w n) : getL (putL w n) = n := by
  rw [getL_putL h.1]
  exact Int.emod_eq_of_lt h.1 h.2
theorem encL_take {seq o i : Int} {d : List Int} : (encL seq o i d).take 4 = putL 4 seq := by
  unfold encL
  rw [List.append_assoc, List.append_assoc, List.take_append_of_le_length (by simp [putL_len]), List.take_of_length_le (by simp [putL_len])]
def par2 (a b : List Int) : List Int := a.take 4 ++ zx (a.drop 4) (b.drop 4)
theorem par2_len {a b : List Int} (ha : a.length = 64) : (par2 a b).length = 64 := by simp [par2, zx_len]; omega
theorem parL2 {a b : List Int} (ha : a.length = 64) (hb : b.length = 64) (h : b.take 4 = a.take 4) : parL [a, b] = some (par2 a b) := by
  have hok : parOk [a, b] := ⟨by simp, fun c hc => by
    simp only [List.mem_cons, List.not_mem_nil, or_false] at hc
    rcases hc with rfl | rfl
    · exact ⟨ha, rfl⟩
    · exact ⟨hb, h⟩⟩
  have e1 : xorB [] (a.drop 4) = a.drop 4 := by
    unfold xorB
    rw [if_pos (by simp; omega), zx_nil]
  have e2 : xorB (a.drop 4) (b.drop 4) = zx (a.drop 4) (b.drop 4) := by
    unfold xorB
    rw [if_neg (by simp; omega)]
  rw [parL, if_pos hok]
  show some (a.take 4 ++ xorB (xorB [] (a.drop 4)) (b.drop 4)) = _
  rw [e1, e2]; rfl
theorem par2_take {a b : List Int} (ha : a.length = 64) : (par2 a b).take 4 = a.take 4 := by
  unfold par2
  rw [List.take_append_of_le_length (by simp; omega), List.take_of_length_le (by simp; omega)]
theorem par2_byts {a b : List Int} (ha : Byts a) (hb : Byts b) (la : a.length = 64) (lb : b.length = 64) (h : b.take 4 = a.take 4) : Byts (par2 a b) := by
  have := parL_byts (ls := [a, b]) (fun c hc => by
    simp only [List.mem_cons, List.not_mem_nil, or_false] at hc
    rcases hc with rfl | rfl
    · exact ha
    · exact hb)
  rw [parL2 la lb h] at this
  exact this
end Go.Proofs.Ytldmeimebebllaa
namespace Go.Proofs.Ytldmeimebebllaa
open Go.Mo
set_option linter.unusedVariables false
variable {g : Fr} {cv : CV}
structure Bl (R : Rk) (m : G3) (b : List Int) (done : Nat → Bool) : Prop where
  calm : Calm R
  n : R.n = 4
  ns : R.ns = 41
  sec : ∀ i s : Nat, i < 3 → s < 41 → (R.dk (slotV (3, 3, 12) m i).1.toNat).sec (s : Int) = if done (i * 41 + s) = true then b else noughts
theorem slot_inj (m : G3) {i j : Nat} (hi : i < 3) (hj : j < 3) (h : (slotV (3, 3, 12) m i).1 = (slotV (3, 3, 12) m j).1) : i = j := by
  rw [(slotV_in m i hi).2, (slotV_in m j hj).2] at h
  split at h <;> split at h <;> omega
theorem Bl.write {R : Rk} {m : G3} {b : List Int} {done : Nat → Bool} (h : Bl R m b done) (hb : b.length = 64) {q r : Nat} (hq : q < 3) (hr : r < 41) :
    R.gate (slotV (3, 3, 12) m q).1 r b.length = 0 ∧ Bl (R.write (slotV (3, 3, 12) m q).1 r b) m b (fun k => if k = q * 41 + r then true else done k) := by
  have hrg := slot_range m q hq
  have hw := h.calm.write (k := (slotV (3, 3, 12) m q).1) (s := r) (b := b) (by rw [h.n]; exact hrg) (by rw [h.ns]; omega) hb
  refine ⟨hw.1, ?_⟩
  rw [hw.2]
  refine ⟨h.calm.put _ _ _, h.n, h.ns, fun i s hi hs => ?_⟩
  rw [put_sec, h.sec i s hi hs]
  have hri := slot_range m i hi
  by_cases h1 : i = q
  · subst h1
    by_cases h2 : s = r
    · subst h2; simp
    · have h4 : ¬ (s : Int) = (r : Int) := by omega
      have h3 : ¬ i * 41 + s = i * 41 + r := by omega
      rw [if_neg (fun e => h4 e.2), if_neg h3]
  · have h2 : ¬ (slotV (3, 3, 12) m i).1.toNat = (slotV (3, 3, 12) m q).1.toNat := fun e => h1 (slot_inj m hi hq (by omega))
    have h3 : ¬ i * 41 + s = q * 41 + r := by omega
    simp [h2, h3]
end Go.Proofs.Ytldmeimebebllaa
namespace Go.Proofs.Ytldmeimebebllaa
open Go.Mo
set_option linter.unusedVariables false
variable {g : Fr} {cv : CV}
def spt (seg r : Nat) (i : Nat) : Int × Int := (if i = 2 then 2 - (((seg * 3 + r) % 3 : Nat) : Int) else ((((3 + i) - (seg * 3 + r) % 3) % 3 : Nat) : Int), (5 + (seg * 3 + r) : Nat))
theorem spt_rng {seg r i : Nat} (hs : seg < 12) (hr : r < 3) (hi : i < 3) : (0 ≤ (spt seg r i).1 ∧ (spt seg r i).1 < 3) ∧ (5 ≤ (spt seg r i).2 ∧ (spt seg r i).2 < 41) := by
  unfold spt
  refine ⟨?_, ?_⟩
  · simp only
    split <;> omega
  · simp only
    omega
theorem Rk.bys.put {R : Rk} (h : R.bys) {k s : Int} {b : List Int} (hb : Byts b) : (R.put k s b).bys := fun j => by
  simp only [Rk.put]
  split
  · refine ⟨(h j).1, fun i c hc => ?_⟩
    simp only at hc
    split at hc
    · cases hc; exact hb
    · exact (h j).2 i c hc
  · exact h j
end Go.Proofs.Ytldmeimebebllaa
namespace Go.Proofs.Ytldmeimebebllaa
open Go.Mo
set_option linter.unusedVariables false
variable {g : Fr} {cv : CV}
abbrev Q3 : G3 := (3, 3, 12)
structure EncD (seq : Int) (l : List BlkA) : Prop where
  all : encAll seq l 6 = true
  byts : ∀ c ∈ l, Byts c.data
theorem EncD.ok {seq : Int} {l : List BlkA} (h : EncD seq l) {k : Nat} (hk : k < 6) : encOk seq (blkAt l k).owner (blkAt l k).index (blkAt l k).data := encAll_iff.1 h.all k hk
theorem blkAt_byts {l : List BlkA} (h : ∀ c ∈ l, Byts c.data) (k : Nat) : Byts (blkAt l k).data := by
  unfold blkAt
  by_cases hk : k < l.length
  · rw [List.getD_eq_getElem?_getD, List.getElem?_eq_getElem hk]; exact h _ (List.getElem_mem hk)
  · rw [List.getD_eq_getElem?_getD, List.getElem?_eq_none (by omega)]; exact fun n hn => by simp [BlkA.nil] at hn
theorem EncD.len {seq : Int} {l : List BlkA} (h : EncD seq l) {k : Nat} (hk : k < 6) : (encAt seq l k).length = 64 := encL_len (h.ok hk).2.2.2
theorem EncD.by {seq : Int} {l : List BlkA} (h : EncD seq l) (k : Nat) : Byts (encAt seq l k) := encL_byts (blkAt_byts h.byts k)
theorem encAt_take {seq : Int} {l : List BlkA} {k : Nat} : (encAt seq l k).take 4 = putL 4 seq := encL_take
theorem dat_blk {seq : Int} {l : List BlkA} {r i : Nat} (hi : i < 2) : datAt Q3 seq l r i = encAt seq l (r * 2 + i) := by
  unfold datAt
  rw [show ((Q3.1 - 1).toNat) = 2 from rfl, if_pos hi]
theorem dat_par {seq : Int} {l : List BlkA} {r : Nat} (h : EncD seq l) (hr : r < 3) : datAt Q3 seq l r 2 = par2 (encAt seq l (r * 2)) (encAt seq l (r * 2 + 1)) := by
  unfold datAt
  rw [show ((Q3.1 - 1).toNat) = 2 from rfl, if_neg (by decide)]
  have e : rowL Q3 seq l r = [encAt seq l (r * 2), encAt seq l (r * 2 + 1)] := by
    unfold rowL
    rw [show ((Q3.1 - 1).toNat) = 2 from rfl]
    rfl
  rw [e, parL2 (h.len (by omega)) (h.len (by omega)) (by rw [encAt_take, encAt_take])]; rfl
structure DatOk (seq : Int) (d : List Int) : Prop where
  len : d.length = 64
  byts : Byts d
  take : d.take 4 = putL 4 seq
theorem EncD.dat {seq : Int} {l : List BlkA} (h : EncD seq l) {r i : Nat} (hr : r < 3) (hi : i < 3) : DatOk seq (datAt Q3 seq l r i) := by
  have h1 := h.len (k := r * 2) (by omega)
  have h2 := h.len (k := r * 2 + 1) (by omega)
  have ht : (encAt seq l (r * 2 + 1)).take 4 = (encAt seq l (r * 2)).take 4 := by rw [encAt_take, encAt_take]
  by_cases h3 : i < 2
  · rw [dat_blk h3]
    exact ⟨h.len (by omega), h.by _, encAt_take⟩
  · obtain rfl : i = 2 := by omega
    rw [dat_par h hr]
    exact ⟨par2_len h1, par2_byts (h.by _) (h.by _) h1 h2 ht, by rw [par2_take h1, encAt_take]⟩
theorem DatOk.head {seq : Int} {d : List Int} (h : DatOk seq d) (hs : fitsN 4 seq) : (headOf d).1 = seq := by
  rw [headOf, if_pos h.len]
  show getB d 0 4 = seq
  unfold getB
  rw [List.drop_zero, h.take, getL_fits hs]
def Seg (m : G3) (R : Rk) (seg : Nat) (seq : Int) (l : List BlkA) : Prop := ∀ r i, r < 3 → i < 3 → (R.dk (slotV Q3 m (spt seg r i).1).1.toNat).sec (spt seg r i).2 = datAt Q3 seq l r i
end Go.Proofs.Ytldmeimebebllaa
namespace Go.Proofs.Ytldmeimebebllaa
open Go.Mo
set_option linter.unusedVariables false
variable {g : Fr} {cv : CV}
theorem tick_same (D : Dk) : D.tick.cached = D.cached ∧ D.tick.lasts = D.lasts := by
  unfold Dk.tick
  repeat' split
  all_goals exact ⟨rfl, rfl⟩
structure SameS (R R1 : Rk) : Prop where
  sec : ∀ j (s : Nat), (R1.dk j).sec (s : Int) = (R.dk j).sec (s : Int)
  bys : R.bys → R1.bys
  n : R1.n = R.n
  ns : R1.ns = R.ns
theorem SameS.refl (R : Rk) : SameS R R := ⟨fun _ _ => rfl, id, rfl, rfl⟩
theorem SameS.trans {A B C : Rk} (h : SameS A B) (h' : SameS B C) : SameS A C := ⟨fun j s => (h'.sec j s).trans (h.sec j s), fun x => h'.bys (h.bys x), h'.n.trans h.n, h'.ns.trans h.ns⟩
theorem SameS.ticked (R : Rk) : SameS R R.ticked := by
  unfold Rk.ticked
  split
  · exact ⟨fun _ _ => rfl, fun h => h, rfl, rfl⟩
  · refine ⟨fun j s => ?_, fun h j => ?_, rfl, rfl⟩
    · show ((R.dk j).tick).sec s = _
      unfold Dk.sec
      rw [(tick_same _).1, (tick_same _).2]
    · have := tick_same (R.dk j)
      show (R.dk j).tick.bys
      unfold Dk.bys
      rw [this.1, this.2]
      exact h j
theorem SameS.gated (R : Rk) (k s size : Int) : SameS R (R.gated k s size) := by
  unfold Rk.gated
  split
  · exact .refl R
  · exact .ticked R
theorem Seg.same {m : G3} {R R1 : Rk} {seg : Nat} {seq : Int} {l : List BlkA} (h : Seg m R seg seq l) (hs : SameS R R1) : Seg m R1 seg seq l := fun r i hr hi => by
  have e : (spt seg r i).2 = ((5 + (seg * 3 + r) : Nat) : Int) := rfl
  rw [← h r i hr hi, e, hs.sec]
theorem sec_brd {m : G3} {R : Rk} {f : Nat → Bool} (h : Settled R f) (hn : R.n = 4) (hns : R.ns = 41) {s : Int × Int} (h1 : 0 ≤ s.1 ∧ s.1 < 3) (h2 : 0 ≤ s.2 ∧ s.2 < 41) :
    brdE Q3 m R s = (if f (slotV Q3 m s.1).1.toNat = true then 13 else 0) ∧ (f (slotV Q3 m s.1).1.toNat = false → brd Q3 m R s = (R.dk (slotV Q3 m s.1).1.toNat).sec s.2) := by
  obtain ⟨i, hi⟩ : ∃ i : Nat, s.1 = (i : Int) := ⟨s.1.toNat, by omega⟩
  have hi3 : i < 3 := by omega
  have hsl := slotV_in m i hi3
  have hrg : 0 ≤ (slotV Q3 m i).1 ∧ (slotV Q3 m i).1 < 4 := slot_range m i hi3
  unfold brdE brd
  rw [hi]
  have hr : ¬ ((slotV Q3 m i).1 < 0 ∨ (slotV Q3 m i).1 ≥ (R.n : Int) ∨ s.2 < 0 ∨ s.2 ≥ (R.ns : Int)) := by
    rw [hn, hns]
    omega
  have hE : R.rdErr (slotV Q3 m i).1 s.2 = if f (slotV Q3 m i).1.toNat = true then 13 else 0 := by
    unfold Rk.rdErr
    rw [if_neg (by simp [h.off]), if_neg hr, h.failed]
  rw [show (slotV Q3 m i).2 = true from hsl.1, if_pos rfl, if_pos rfl]
  refine ⟨hE, fun hf => ?_⟩
  unfold Rk.rd
  rw [hE, hf]
  simp
end Go.Proofs.Ytldmeimebebllaa
namespace Go.Proofs.Ytldmeimebebllaa
open Go.Mo
set_option linter.unusedVariables false
variable {g : Fr} {cv : CV}
structure SegF (m : G3) (R : Rk) (f : Nat → Bool) (seg : Nat) (seq : Int) (l : List BlkA) : Prop where
  set : Settled R f
  n : R.n = 4
  ns : R.ns = 41
  there : Seg m R seg seq l
  enc : EncD seq l
  s12 : seg < 12
  fit : fitsN 4 seq
def lostS (m : G3) (f : Nat → Bool) (i : Nat) : Bool := f (slotV Q3 m i).1.toNat
theorem SegF.good {m : G3} {R : Rk} {f : Nat → Bool} {seg : Nat} {seq : Int} {l : List BlkA} (h : SegF m R f seg seq l) {r i : Nat} (hr : r < 3) (hi : i < 3) :
    goodV Q3 m R (spt seg r i) seq = if lostS m f (spt seg r i).1.toNat = true then ([], false) else (datAt Q3 seq l r i, true) := by
  have hrg := spt_rng h.s12 hr hi
  have hb := sec_brd (m := m) h.set h.n h.ns (s := spt seg r i) hrg.1 (by omega)
  have hL : lostS m f (spt seg r i).1.toNat = f (slotV Q3 m (spt seg r i).1).1.toNat := by
    unfold lostS
    rw [show (((spt seg r i).1.toNat : Nat) : Int) = (spt seg r i).1 by omega]
  unfold goodV
  rw [hL, hb.1]
  cases hf : f (slotV Q3 m (spt seg r i).1).1.toNat with
  | true => simp
  | false =>
    rw [hb.2 hf, h.there r i hr hi]
    have := ((h.enc.dat hr hi).head h.fit)
    simp [this]
end Go.Proofs.Ytldmeimebebllaa












namespace Go.Proofs.Ytldmeimebebllaa
open Go.Mo
set_option linter.unusedVariables false
variable {g : Fr} {cv : CV}
theorem val_or {H : HP} {p q : Prop} [Decidable p] [Decidable q] : Val g H (if decide p = true then pureM true else pureM (decide q)) (decide (p ∨ q)) := by
  by_cases h : p
  · rw [decide_eq_true h, decide_eq_true (Or.inl h : p ∨ q)]; exact wps_pure (ent_pr rfl)
  · rw [decide_eq_false h]
    exact wps_pure (ent_prr (decide_eq_decide.2 (by simp [h])) (Ent.refl _))
theorem pow256 (i : Nat) : (0 : Int) < ((256 ^ i : Nat) : Int) := by exact_mod_cast Nat.pow_pos (by decide)
theorem dg_tmod {n : Int} (hn : 0 ≤ n) (i : Nat) : IntKind.wrap .u8 (Int.tmod (n / (256 ^ i : Nat)) 256) = dg n i := by
  have h0 : 0 ≤ n / ((256 ^ i : Nat) : Int) := Int.ediv_nonneg hn (Int.le_of_lt (pow256 i))
  rw [Int.tmod_eq_emod_of_nonneg h0]
  unfold dg
  simp [IntKind.wrap, IntKind.bits, IntKind.signed]
theorem div_step {n : Int} (i : Nat) : n / (256 ^ i : Nat) / 256 = n / (256 ^ (i + 1) : Nat) := by
  rw [Nat.pow_succ, Int.natCast_mul, Int.ediv_ediv_of_nonneg (Int.le_of_lt (pow256 i))]; rfl
theorem ref01_Put_spec {H : HP} (w : Nat) (n : Int) (h1 : 1 ≤ w) (h4 : w ≤ 4) (hn63 : n < 9223372036854775808) : wps g H (ref01_Put w n) (fun s => H * own 1 s (bv (putB w n))) := by
  unfold ref01_Put
  refine wps_alloc fun x7 => ?_
  refine wps_val val_or ?_
  refine wps_val val_or ?_
  by_cases hn : 0 ≤ n
  rotate_left
  · have hf : ¬ fitsN w n := fun h => hn h.1
    rw [putB, if_neg hf]
    refine wps_ite (fun _ => wps_pure ?_) (fun h => absurd (decide_eq_true (.inr (by omega))) h)
    refine ent_swap (A := pc x7 []) (B := own 1 ⟨some ⟨x7, 0, none⟩, 0, 0⟩ []) (pc_own (n := 0) (z := 1) rfl) ?_
    exact Ent.refl _
  refine wps_ite (fun h => by have := of_decide_eq_true h; omega) (fun _ => ?_)
  refine wps_swap (A := pc x7 []) (B := own 1 ⟨some ⟨x7, 0, none⟩, 0, 0⟩ []) (pc_own (n := 0) (z := 1) rfl) ?_
  refine wps_loop (fun st => ex fun i : Nat => pr (st.2.2 = (i : Int) ∧ i ≤ w ∧ st.1 = n / (256 ^ i : Nat) ∧ st.2.1.len = i) * H * own 1 st.2.1 (bv ((List.range i).map (dg n)))) (fun st => (w - st.2.2).toNat) ?_ fun st => ?_
  · refine ent_ex 0 ?_
    refine ent_pickS (by rfl) ?_
    exact ent_pr ⟨rfl, by omega, by simp, rfl⟩
  refine wps_ex fun i => ?_
  rw [star_assoc]
  refine wps_pr fun ⟨hi, hin, hv, hl⟩ => ?_
  have h0 : 0 ≤ st.1 := by rw [hv]; exact Int.ediv_nonneg hn (Int.le_of_lt (pow256 i))
  have hle : st.1 ≤ n := by rw [hv]; exact Int.ediv_le_self _ hn
  refine wps_ite (fun hc => ?_) (fun hc => ?_)
  · have hlt : i < w := by simp only [decide_eq_true_eq] at hc; omega
    refine wps_append1 1 rfl (by decide) rfl rfl (by simp [Value.oneCell']) (by omega) fun s' hs' => wps_pure ?_
    refine ent_prr (by dsimp only; rw [range_add1 hi (by omega)]; omega) (ent_ex (i + 1) ?_)
    have e1 : w64 (Int.tdiv st.1 256) = n / (256 ^ (i + 1) : Nat) := by
      rw [Int.tdiv_eq_ediv_of_nonneg h0, w64_id (by omega) (by omega), hv, div_step]
    rw [e1]
    have e2 : bv ((List.range (i + 1)).map (dg n)) = bv ((List.range i).map (dg n)) ++ [Value.int .u8 (IntKind.wrap .u8 (Int.tmod st.1 256))] := by
      rw [hv, dg_tmod hn]
      simp [bv, List.range_succ]
    rw [e2]
    dsimp only
    refine ent_pick ?_
    exact Ent.trans (ent_pr ⟨range_add1 hi (by omega), by omega, rfl, by omega⟩) (Ent.of_eq rfl)
  · have hie : i = w := by
      have : ¬ (st.2.2 < (w : Int)) := fun h => hc (decide_eq_true h)
      omega
    rw [hie] at hv
    have hM : (0 : Int) < ((256 ^ w : Nat) : Int) := by exact_mod_cast Nat.pow_pos (by decide)
    have hfit : fitsN w n ↔ ¬ st.1 > 0 := by
      unfold fitsN
      rw [hv]
      generalize ((256 ^ w : Nat) : Int) = M at *
      constructor
      · rintro ⟨_, h⟩
        rw [Int.ediv_eq_zero_of_lt hn h]; omega
      · intro h
        refine ⟨hn, ?_⟩
        refine Classical.byContradiction fun h2 => h ?_
        have : 1 ≤ n / M := Int.le_ediv_of_mul_le hM (by omega)
        omega
    refine wps_mapR (wps_ite (fun h => wps_pure ?_) (fun h => wps_pure ?_))
    · have h' : ¬ fitsN w n := fun h2 => hfit.1 h2 (of_decide_eq_true h)
      rw [putB, if_neg h']
      exact ent_own0 (ent_left _ _)
    · have h' : fitsN w n := hfit.2 fun h2 => h (decide_eq_true h2)
      rw [putB, if_pos h', hie]
      exact Ent.refl _
theorem ref01_Get_val {H : HP} {s : Slc} {b : List Int} (p w : Nat) (hs : Ent H (byt s b)) (hb : Byts b) (h1 : 1 ≤ w) (h4 : w ≤ 4) (hp : p + w ≤ b.length) (hl : b.length ≤ 1099511627776) : Val g H (ref01_Get s p w) (getB b p w, true) := by
  unfold ref01_Get
  refine wps_fact (len_of hs) fun hls => ?_
  refine wps_val val_or (wps_val val_or (wps_val val_or (wps_val val_or ?_)))
  refine wps_ite (fun h => by
    have := of_decide_eq_true h
    rw [w64_id (by omega) (by omega)] at this
    omega) (fun _ => ?_)
  refine wps_loop (fun st => ex fun i : Nat => pr (st.2 = (i : Int) - 1 ∧ i ≤ w ∧ st.1 = getL ((b.drop (p + i)).take (w - i))) * H) (fun st => (st.2 + 1).toNat) (ent_ex w (ent_prr ⟨by dsimp only; rw [w64_id] <;> omega, by omega, by rw [Nat.sub_self]; rfl⟩ (Ent.refl _))) fun st => ?_
  refine wps_ex fun i => wps_pr fun ⟨hi, hin, hv⟩ => ?_
  refine wps_ite (fun hc => ?_) (fun hc => ?_)
  · have hi1 : 1 ≤ i := by have := of_decide_eq_true hc; omega
    have hlt : p + (i - 1) < b.length := by omega
    have hr := getL_rng ((hb.drop (p + i)).take (w - i))
    have hlen : ((b.drop (p + i)).take (w - i)).length = w - i := by simp; omega
    rw [hlen] at hr
    have hle : (256 : Nat) ^ (w - i) ≤ 256 ^ 3 := Nat.pow_le_pow_right (by decide) (by omega)
    have hle2 : ((256 ^ (w - i) : Nat) : Int) ≤ 16777216 := Int.ofNat_le.2 hle
    have hbg := hb.get hlt
    refine wps_rd (p + (i - 1)) b[p + (i - 1)] hs (by rw [hi, w64_id] <;> omega) (by simp [bv, List.getElem?_eq_getElem hlt]) (wps_pure ?_)
    refine ent_prr (by dsimp only; rw [w64_id] <;> omega) (ent_ex (i - 1) (ent_prr ⟨by dsimp only; rw [w64_id] <;> omega, by omega, ?_⟩ (Ent.refl _)))
    have e1 : (b.drop (p + (i - 1))).take (w - (i - 1)) = b[p + (i - 1)] :: (b.drop (p + i)).take (w - i) := by
      rw [List.drop_eq_getElem_cons hlt, show w - (i - 1) = (w - i) + 1 by omega, List.take_succ_cons, show p + (i - 1) + 1 = p + i by omega]
    rw [e1, getL, ← hv]
    rw [← hv] at hr
    dsimp only
    rw [w64_id (n := st.1 * 256) (by omega) (by omega), w64_id (n := b[p + (i - 1)]) (by omega) (by omega), w64_id (by omega) (by omega)]
    omega
  · have hie : i = 0 := by
      have : ¬ (st.2 ≥ 0) := fun h => hc (decide_eq_true h)
      omega
    subst hie
    refine wps_mapR (wps_pure (ent_prr ?_ (Ent.refl _)))
    rw [hv]; rfl
end Go.Proofs.Ytldmeimebebllaa
namespace Go.Proofs.Ytldmeimebebllaa
open Go.Mo
set_option linter.unusedVariables false
variable {g : Fr} {cv : CV}
theorem ref03_Places_val {H : HP} (q : G3) : Val g H (ref03_Places q) (if RightB q = true then placesI q else 0) := by
  unfold ref03_Places
  refine wps_alloc fun x1 => ?_
  refine wps_ldG q.1 q.2.1 q.2.2 (by rfl) ?_
  refine wps_val (ref03_Right_val (q.1, q.2.1, q.2.2)) ?_
  by_cases h : RightB q = true
  · rw [if_pos h]
    refine wps_ite (fun h2 => absurd h (by simpa using h2)) (fun _ => ?_)
    refine wps_ld q.2.1 (by rfl) ?_
    refine wps_ld q.1 (by rfl) (wps_pure (ent_val ?_))
    exact (RightB.bnd h).places.1
  · rw [if_neg h]
    exact wps_ite (fun _ => wps_pure (ent_val rfl)) (fun h2 => absurd (by simpa using h2) h)
end Go.Proofs.Ytldmeimebebllaa
namespace Go.Proofs.Ytldmeimebebllaa
open Go.Mo
set_option linter.unusedVariables false
variable {g : Fr} {cv : CV}
abbrev S4 := Int × Int × Int × Int
def whereB (q : G3) (a : Int) : Bool := RightB q && decide (1 ≤ a ∧ a ≤ q.2.2 * placesI q)
def sumOk (q : G3) (s : S4) : Bool := RightB q && (decide (1 ≤ s.1 ∧ s.1 ≤ q.2.2 ∧ 0 ≤ s.2.1 ∧ s.2.1 < s.1 ∧ 0 ≤ s.2.2.1 ∧ s.2.2.1 ≤ placesI q) && (if s.2.1 = s.1 - 1 then decide (1 ≤ s.2.2.2 ∧ s.2.2.2 ≤ q.2.2 * placesI q) else decide (s.2.2.2 = 0)))
theorem geo_Places_all {H : HP} (q : G3) : Val g H (geo_Places q) (if RightB q = true then placesI q else 0) := by
  unfold geo_Places
  refine wps_alloc fun c => ?_
  refine wps_ldG q.1 q.2.1 q.2.2 (by rfl) ?_
  refine wps_val (geo_Right_val q) ?_
  by_cases h : RightB q = true
  · rw [if_pos h]
    refine wps_ite (fun h2 => absurd h (by simpa using h2)) (fun _ => ?_)
    refine wps_ldG q.1 q.2.1 q.2.2 (by rfl) ?_
    refine wps_val (geo_places_val q) (wps_pure (ent_val ?_))
    exact (RightB.bnd h).places.1
  · rw [if_neg h]
    exact wps_ite (fun _ => wps_pure (ent_val rfl)) (fun h2 => absurd (by simpa using h2) h)
theorem segs_places {q : G3} (h : RightB q = true) : w64 (q.2.2 * placesI q) = q.2.2 * placesI q ∧ q.2.2 * placesI q ≤ 3776 := by
  have hb := RightB.bnd h
  have h1 := hb.places.2
  have b5 := hb.s12
  have b6 := hb.s64
  have h2 : q.2.2 * placesI q ≤ 64 * 59 := Int.mul_le_mul b6 h1.2 (by omega) (by omega)
  have h3 : 0 ≤ q.2.2 * placesI q := Int.mul_nonneg (by omega) (by omega)
  exact ⟨w64_id (by omega) (by omega), by omega⟩
theorem geo_Where_val {H : HP} (q : G3) (a : Int) : Val g H (geo_Where q a) (if whereB q a = true then (((a - 1) / placesI q, (a - 1) % placesI q + 1, true) : Int × Int × Bool) else (0, 0, false)) := by
  unfold geo_Where
  refine wps_alloc fun c => ?_
  refine wps_bindV (u := !whereB q a) ?_ ?_
  · refine wps_regionH ?_
    refine wps_ldGI q.1 q.2.1 q.2.2 (by rfl) ?_
    refine wps_stepV (geo_Right_val q) ?_
    by_cases h : RightB q = true
    · refine wps_ite (fun h2 => absurd h (by simpa using h2)) (fun _ => ?_)
      refine wps_ldI q.2.2 (by rfl) ?_
      refine wps_ldGI q.1 q.2.1 q.2.2 (by rfl) ?_
      refine wps_stepV (geo_places_val q) ?_
      rw [(RightB.bnd h).places.1, (segs_places h).1]
      refine wps_stepV (geo_within_val _ _ _) (wps_pure (ent_prr ?_ (Ent.refl _)))
      simp [whereB, h]
    · refine wps_ite (fun _ => wps_pure (ent_prr ?_ (Ent.refl _))) (fun h2 => absurd (by simpa using h2) h)
      simp [whereB, h]
  by_cases h : whereB q a = true
  · rw [if_pos h]
    refine wps_ite (fun h2 => absurd h (by simpa using h2)) (fun _ => ?_)
    have hR : RightB q = true ∧ (1 ≤ a ∧ a ≤ q.2.2 * placesI q) := by simpa [whereB] using h
    have hb := (RightB.bnd hR.1).places
    have hs := (segs_places hR.1).2
    refine wps_regionH ?_
    refine wps_ldGI q.1 q.2.1 q.2.2 (by rfl) ?_
    refine wps_ldGI q.1 q.2.1 q.2.2 (by rfl) ?_
    refine wps_stepV (geo_places_val q) ?_
    rw [hb.1]
    refine wps_assert (by omega) ?_
    refine wps_stepV (geo_places_val q) ?_
    rw [hb.1]
    refine wps_assert (by omega) (wps_pure (ent_val ?_))
    have h0 : 0 ≤ (a - 1) / placesI q := Int.ediv_nonneg (by omega) (by omega)
    have h1 : (a - 1) / placesI q ≤ a - 1 := Int.ediv_le_self _ (by omega)
    have h2 := Int.emod_nonneg (a - 1) (b := placesI q) (by omega)
    have h3 := Int.emod_lt_of_pos (a - 1) (b := placesI q) (by omega)
    rw [w64_id (n := a - 1) (by omega) (by omega), Int.tdiv_eq_ediv_of_nonneg (by omega), Int.tmod_eq_emod_of_nonneg (by omega), w64_id (n := (a - 1) / placesI q) (by omega) (by omega), w64_id (by omega) (by omega)]
  · rw [if_neg h]
    exact wps_ite (fun _ => wps_pure (ent_val rfl)) (fun h2 => absurd (by simpa using h2) h)
theorem val_cond {H : HP} {c b : Bool} {m : M Bool} (h : c = false → Val g H m b) : Val g H (if c = true then pureM true else m) (c || b) := by
  refine wps_ite (fun hc => wps_pure (ent_val (by rw [hc]; rfl))) (fun hc => ?_)
  have hc : c = false := by simpa using hc
  rw [hc]
  exact h hc
theorem scan_right_val {H : HP} (q : G3) (s : S4) : Val g H (scan_right q s) (sumOk q s) := by
  unfold scan_right
  obtain ⟨c, x, b, r⟩ := s
  refine wps_alloc fun x2 => ?_
  refine wps_alloc fun x3 => ?_
  refine wps_ldG q.1 q.2.1 q.2.2 (by rfl) ?_
  refine wps_val (geo_Places_all q) ?_
  by_cases hR : RightB q = true
  rotate_left
  · rw [if_neg hR]
    refine wps_val (v := true) (wps_ite (fun _ => wps_pure (ent_val rfl)) (fun h => absurd rfl h)) ?_
    refine wps_val (v := true) (wps_ite (fun _ => wps_pure (ent_val rfl)) (fun h => absurd rfl h)) ?_
    refine wps_val (v := true) (wps_ite (fun _ => wps_pure (ent_val rfl)) (fun h => absurd rfl h)) ?_
    refine wps_val (v := true) (wps_ite (fun _ => wps_pure (ent_val rfl)) (fun h => absurd rfl h)) ?_
    refine wps_val (v := true) (wps_ite (fun _ => wps_pure (ent_val rfl)) (fun h => absurd rfl h)) ?_
    refine wps_val (v := true) (wps_ite (fun _ => wps_pure (ent_val rfl)) (fun h => absurd rfl h)) ?_
    exact wps_ite (fun _ => wps_pure (ent_val (by simp [sumOk, hR]))) (fun h => absurd rfl h)
  rw [if_pos hR]
  have hb := (RightB.bnd hR).places
  have hs := RightB.bnd hR
  have b6 := hs.s64
  refine wps_val (val_cond (b := decide (c < 1)) fun _ => wps_ld c (by rfl) (wps_pure (ent_val rfl))) ?_
  refine wps_val (val_cond (b := decide (c > q.2.2)) fun _ => wps_ld c (by rfl) (wps_ld q.2.2 (by rfl) (wps_pure (ent_val rfl)))) ?_
  refine wps_val (val_cond (b := decide (x < 0)) fun _ => wps_ld x (by rfl) (wps_pure (ent_val rfl))) ?_
  refine wps_val (val_cond (b := decide (x ≥ c)) fun _ => wps_ld x (by rfl) (wps_ld c (by rfl) (wps_pure (ent_val rfl)))) ?_
  refine wps_val (val_cond (b := decide (b < 0)) fun _ => wps_ld b (by rfl) (wps_pure (ent_val rfl))) ?_
  refine wps_val (val_cond (b := decide (b > placesI q)) fun _ => wps_ld b (by rfl) (wps_pure (ent_val rfl))) ?_
  refine wps_ite (fun h => wps_pure (ent_val ?_)) (fun h => ?_)
  · simp only [Bool.or_eq_true, decide_eq_true_eq, beq_iff_eq] at h
    have : ¬ (1 ≤ c ∧ c ≤ q.2.2 ∧ 0 ≤ x ∧ x < c ∧ 0 ≤ b ∧ b ≤ placesI q) := by omega
    simp [sumOk, this]
  · simp only [Bool.or_eq_true, decide_eq_true_eq, beq_iff_eq] at h
    have hk : 1 ≤ c ∧ c ≤ q.2.2 ∧ 0 ≤ x ∧ x < c ∧ 0 ≤ b ∧ b ≤ placesI q := by omega
    refine wps_ld x (by rfl) (wps_ld c (by rfl) ?_)
    rw [w64_id (n := c - 1) (by omega) (by omega)]
    refine wps_ite (fun he => ?_) (fun he => ?_)
    · have he : x = c - 1 := by simpa using he
      refine wps_ldG q.1 q.2.1 q.2.2 (by rfl) (wps_ld r (by rfl) (wps_val (geo_Where_val q r) (wps_pure (ent_val ?_))))
      unfold sumOk whereB
      rw [hR, decide_eq_true hk, if_pos he]
      by_cases hw : 1 ≤ r ∧ r ≤ q.2.2 * placesI q <;> simp [hw]
    · have he : ¬ x = c - 1 := by simpa using he
      refine wps_ld r (by rfl) (wps_pure (ent_val ?_))
      unfold sumOk
      rw [hR, decide_eq_true hk, if_neg he]
      by_cases hr : r = 0 <;> simp [hr]
theorem val_condL {H : HP} {c b : Bool} {m : M (Bool ⊕ Bool)} (h : c = false → wps g H m fun x => pr (x = .inl b) * H) : wps g H (if c = true then pureM (.inl true) else m) fun x => pr (x = .inl (c || b)) * H := by
  refine wps_ite (fun hc => wps_pure (ent_prr (by rw [hc]; rfl) (Ent.refl _))) (fun hc => ?_)
  have hc : c = false := by simpa using hc
  rw [hc]
  exact h hc
theorem ref08_Right_val {H : HP} (q : G3) (s : S4) : Val g H (ref08_Right q s) (sumOk q s) := by
  unfold ref08_Right
  obtain ⟨c, x, b, r⟩ := s
  refine wps_alloc fun x2 => ?_
  refine wps_alloc fun x3 => ?_
  refine wps_bindV (u := !RightB q || (decide (c < 1) || (decide (c > q.2.2) || (decide (x < 0) || (decide (x ≥ c) || (decide (b < 0) || decide (b > if RightB q = true then placesI q else 0))))))) ?_ ?_
  · refine wps_regionH ?_
    refine wps_ldGI q.1 q.2.1 q.2.2 (by rfl) ?_
    refine wps_stepV (ref03_Right_val q) ?_
    refine val_condL fun _ => wps_ldI c (by rfl) ?_
    refine val_condL fun _ => wps_ldI c (by rfl) (wps_ldI q.2.2 (by rfl) ?_)
    refine val_condL fun _ => wps_ldI x (by rfl) ?_
    refine val_condL fun _ => wps_ldI x (by rfl) (wps_ldI c (by rfl) ?_)
    refine val_condL fun _ => wps_ldI b (by rfl) ?_
    refine val_condL fun _ => wps_ldI b (by rfl) ?_
    refine wps_ldGI q.1 q.2.1 q.2.2 (by rfl) ?_
    refine wps_stepV (ref03_Places_val q) ?_
    exact wps_pure (ent_prr rfl (Ent.refl _))
  by_cases hR : RightB q = true
  rotate_left
  · exact wps_ite (fun _ => wps_pure (ent_val (by simp [sumOk, hR]))) (fun h => absurd (by simp [hR]) h)
  rw [hR, if_pos rfl]
  have hb := (RightB.bnd hR).places
  have hs := RightB.bnd hR
  have b6 := hs.s64
  refine wps_ite (fun h => wps_pure (ent_val ?_)) (fun h => ?_)
  · simp only [Bool.or_eq_true, decide_eq_true_eq, Bool.not_true, Bool.false_eq_true, false_or] at h
    have : ¬ (1 ≤ c ∧ c ≤ q.2.2 ∧ 0 ≤ x ∧ x < c ∧ 0 ≤ b ∧ b ≤ placesI q) := by omega
    simp [sumOk, this]
  · simp only [Bool.or_eq_true, decide_eq_true_eq, Bool.not_true, Bool.false_eq_true, false_or] at h
    have hk : 1 ≤ c ∧ c ≤ q.2.2 ∧ 0 ≤ x ∧ x < c ∧ 0 ≤ b ∧ b ≤ placesI q := by omega
    refine wps_ld x (by rfl) (wps_ld c (by rfl) ?_)
    rw [w64_id (n := c - 1) (by omega) (by omega)]
    refine wps_ite (fun he => ?_) (fun he => ?_)
    · have he : x < c - 1 := of_decide_eq_true he
      refine wps_ld r (by rfl) (wps_pure (ent_val ?_))
      unfold sumOk
      rw [hR, decide_eq_true hk, if_neg (show ¬ x = c - 1 by omega)]
      by_cases hr : r = 0 <;> simp [hr]
    · have he : ¬ x < c - 1 := fun h => he (decide_eq_true h)
      refine wps_regionH ?_
      refine wps_ldI r (by rfl) ?_
      have hfin : sumOk q (c, x, b, r) = decide (1 ≤ r ∧ r ≤ q.2.2 * placesI q) := by
        unfold sumOk
        rw [hR, decide_eq_true hk, if_pos (show x = c - 1 by omega)]; rfl
      rw [hfin]
      refine wps_ite (fun hr => ?_) (fun hr => wps_pure (ent_val ?_))
      · have hr : r ≥ 1 := of_decide_eq_true hr
        refine wps_ldI r (by rfl) (wps_ldI q.2.2 (by rfl) (wps_ldGI q.1 q.2.1 q.2.2 (by rfl) ?_))
        refine wps_stepV (ref03_Places_val q) ?_
        rw [hR, if_pos rfl, (segs_places hR).1]
        refine wps_pure (ent_val ?_)
        by_cases hw : r ≤ q.2.2 * placesI q
        · rw [decide_eq_true hw, decide_eq_true ⟨by omega, hw⟩]
        · rw [decide_eq_false hw, decide_eq_false fun h => hw h.2]
      · have hr : ¬ r ≥ 1 := fun h => hr (decide_eq_true h)
        rw [decide_eq_false fun h => hr (by omega)]
end Go.Proofs.Ytldmeimebebllaa
namespace Go.Proofs.Ytldmeimebebllaa
open Go.Mo
set_option linter.unusedVariables false
variable {g : Fr} {cv : CV}
def allz (b : List Int) : Bool := b.all fun x => x == 0
theorem allz_take {b : List Int} {n : Nat} (h : n + 1 = b.length) (hz : b[n]? = some 0) : allz (b.take n) = allz b := by
  have e : b = b.take n ++ [0] := by
    have h2 := List.take_append_drop n b
    rw [List.drop_eq_getElem_cons (by omega), List.drop_of_length_le (by omega)] at h2
    rw [List.getElem?_eq_getElem (by omega)] at hz
    rw [Option.some.inj hz] at h2
    exact h2.symm
  rw [e]
  unfold allz
  rw [List.take_append_of_le_length (by simp; omega), List.take_take]
  simp
theorem allz_drop {b : List Int} (h : 0 < b.length) (hz : b[0]? = some 0) : allz (b.drop 1) = allz b := by
  match b, h, hz with
  | x :: b, _, hz =>
    have : x = 0 := by simpa using hz
    subst this
    simp [allz]
theorem allz_no {b : List Int} {n : Nat} {x : Int} (h : b[n]? = some x) (hx : x ≠ 0) : allz b = false := by
  apply Bool.eq_false_iff.2
  intro ha
  unfold allz at ha
  rw [List.all_eq_true] at ha
  exact hx (by simpa using ha x (List.mem_of_getElem? h))
theorem byt_cut {s : Slc} {b : List Int} {l h : Nat} (h1 : l ≤ h) (h2 : h ≤ s.len) : Ent (byt s b) (byt (subS 1 s l h) ((b.drop l).take (h - l))) := by
  refine Ent.trans (rsl_sub h1 h2) (Ent.of_eq ?_)
  unfold byt bv
  rw [Nat.mul_one, Nat.mul_one, List.map_take, List.map_drop]
theorem bytes_trimRightByte_spec {H : HP} {s : Slc} {b : List Int} (hs : Ent H (byt s b)) (hbl : b.length ≤ 1099511627776) : wps g H (bytes_trimRightByte s 0) (fun t => pr (∃ b', Ent H (byt t b') ∧ allz b' = allz b ∧ b'.length ≤ b.length) * H) := by
  unfold bytes_trimRightByte
  refine wps_loop (fun st => pr (∃ b', Ent H (byt st b') ∧ allz b' = allz b ∧ b'.length ≤ b.length) * H) (fun st => st.len) (ent_prr ⟨b, hs, rfl, Nat.le_refl _⟩ (Ent.refl _)) fun st => ?_
  refine wps_pr fun ⟨b', h1, h2, h3⟩ => ?_
  refine wps_fact (len_of h1) fun hl => ?_
  by_cases h0 : st.len = 0
  · refine wps_val (v := false) (wps_ite (fun h => absurd h (by simp [h0])) (fun _ => wps_pure (ent_val rfl))) ?_
    exact wps_ite (fun h => absurd h (by decide)) (fun _ => wps_mapR (wps_pure (ent_prr ⟨b', h1, h2, h3⟩ (Ent.refl _))))
  have hlt : st.len - 1 < b'.length := by omega
  have hw : w64 (((st.len : Nat) : Int) - 1) = ((st.len - 1 : Nat) : Int) := by rw [w64_id (by omega) (by omega)]; omega
  refine wps_val (v := b'[st.len - 1] == 0) (wps_ite (fun _ => wps_rd (st.len - 1) b'[st.len - 1] h1 hw (bv_get (List.getElem?_eq_getElem hlt)) (wps_pure (ent_val rfl))) (fun h => absurd (decide_eq_true (show ((st.len : Nat) : Int) > 0 by omega)) h)) ?_
  refine wps_ite (fun hz => ?_) (fun hz => wps_mapR (wps_pure (ent_prr ⟨b', h1, h2, h3⟩ (Ent.refl _))))
  have hz : b'[st.len - 1] = 0 := by simpa using hz
  refine wps_fact (Ent.trans h1 rsl_room) fun hr => ?_
  have hr := hr h0
  refine wps_slice 0 (st.len - 1) rfl hw (by omega) (by omega) (wps_pure ?_)
  refine ent_prr (by show (subS 1 st 0 (st.len - 1)).len < st.len; simp [subS]; omega) (ent_prr ⟨b'.take (st.len - 1), Ent.trans h1 (Ent.trans (byt_cut (l := 0) (h := st.len - 1) (by omega) (by omega)) (Ent.of_eq (by rw [List.drop_zero, Nat.sub_zero]))), ?_, ?_⟩ (Ent.refl _))
  · rw [allz_take (by omega) (by rw [List.getElem?_eq_getElem hlt, hz]), h2]
  · simp; omega
theorem bytes_trimLeftByte_spec {H : HP} {s : Slc} {b : List Int} (hs : Ent H (byt s b)) (hbl : b.length ≤ 1099511627776) : wps g H (bytes_trimLeftByte s 0) (fun t => pr ((((t.len : Nat) : Int) == 0) = allz b) * H) := by
  unfold bytes_trimLeftByte
  refine wps_loop (fun st => pr (∃ b', Ent H (byt st b') ∧ allz b' = allz b) * H) (fun st => st.len) (ent_prr ⟨b, hs, rfl⟩ (Ent.refl _)) fun st => ?_
  refine wps_pr fun ⟨b', h1, h2⟩ => ?_
  refine wps_fact (len_of h1) fun hl => ?_
  by_cases h0 : st.len = 0
  · have hb : b' = [] := List.eq_nil_of_length_eq_zero (by omega)
    subst hb
    refine wps_val (v := false) (wps_ite (fun h => absurd h (by simp [h0])) (fun _ => wps_pure (ent_val rfl))) ?_
    refine wps_ite (fun h => absurd h (by decide)) (fun _ => wps_mapR (wps_ite (fun _ => wps_pure (ent_prr ?_ (Ent.refl _))) (fun h => absurd (by simp [h0]) h)))
    rw [← h2]; rfl
  have hlt : 0 < b'.length := by omega
  refine wps_val (v := b'[0] == 0) (wps_ite (fun _ => wps_rd 0 b'[0] h1 rfl (bv_get (List.getElem?_eq_getElem hlt)) (wps_pure (ent_val rfl))) (fun h => absurd (decide_eq_true (show ((st.len : Nat) : Int) > 0 by omega)) h)) ?_
  refine wps_ite (fun hz => ?_) (fun hz => wps_mapR ?_)
  · have hz : b'[0] = 0 := by simpa using hz
    refine wps_fact (Ent.trans h1 rsl_room) fun hr => ?_
    have hr := hr h0
    refine wps_slice 1 st.len rfl rfl (by omega) hr (wps_pure ?_)
    refine ent_prr (by show (subS 1 st 1 st.len).len < st.len; simp [subS]; omega) (ent_prr ⟨b'.drop 1, Ent.trans h1 (Ent.trans (byt_cut (l := 1) (h := st.len) (by omega) (by omega)) (Ent.of_eq (by rw [List.take_of_length_le (by simp; omega)]))), ?_⟩ (Ent.refl _))
    rw [allz_drop hlt (by rw [List.getElem?_eq_getElem hlt, hz]), h2]
  · have hz : ¬ b'[0] = 0 := by simpa using hz
    refine wps_ite (fun h => absurd h (by simp; omega)) (fun _ => wps_pure (ent_prr ?_ (Ent.refl _)))
    rw [← h2, allz_no (List.getElem?_eq_getElem hlt) hz]
    simp; omega
theorem bits_Nought_val {H : HP} {s : Slc} {b : List Int} (hs : Ent H (byt s b)) (hbl : b.length ≤ 1099511627776) : Val g H (bits_Nought s) (allz b) := by
  unfold bits_Nought bytes_Trim_0
  refine wps_fact (len_of hs) fun hl => ?_
  refine wps_bind (R := fun t => pr ((((t.len : Nat) : Int) == 0) = allz b) * H) ?_ fun t => wps_pr fun ht => wps_pure (ent_val ht)
  refine wps_ite (fun h => wps_pure (ent_prr ?_ (Ent.refl _))) (fun _ => ?_)
  · have : b = [] := List.eq_nil_of_length_eq_zero (by simp at h; omega)
    subst this; rfl
  refine wps_regionH ?_
  refine wps_bind (bytes_trimRightByte_spec hs hbl) fun t => ?_
  refine wps_pr fun ⟨b', h1, h2, h3⟩ => ?_
  refine wps_bind (bytes_trimLeftByte_spec h1 (by omega)) fun u => ?_
  refine wps_pr fun hu => wps_pure (ent_prr ?_ (Ent.refl _))
  rw [hu, h2]
theorem ref01_Nought_val {H : HP} {s : Slc} {b : List Int} (hs : Ent H (byt s b)) (hbl : b.length ≤ 1099511627776) : Val g H (ref01_Nought s) (allz b) := by
  unfold ref01_Nought
  refine wps_fact (len_of hs) fun hl => ?_
  refine wps_loop (fun st => pr (∃ i : Nat, st = (i : Int) ∧ i ≤ b.length ∧ allz (b.drop i) = allz b) * H) (fun st => (b.length - st).toNat) (ent_prr ⟨0, rfl, by omega, rfl⟩ (Ent.refl _)) fun st => ?_
  refine wps_pr fun ⟨i, hi, hin, hz⟩ => ?_
  refine wps_ite (fun hc => ?_) (fun hc => ?_)
  · have hlt : i < b.length := by have := of_decide_eq_true hc; omega
    refine wps_rd i b[i] hs hi (bv_get (List.getElem?_eq_getElem hlt)) ?_
    refine wps_ite (fun hx => wps_mapR (wps_pure (ent_val ?_))) (fun hx => wps_pure ?_)
    · have hx : b[i] ≠ 0 := by simpa using hx
      exact (allz_no (List.getElem?_eq_getElem hlt) hx).symm
    · have hx : b[i] = 0 := by simpa using hx
      refine ent_prr (by rw [range_add1 hi (by omega)]; omega) (ent_prr ⟨i + 1, range_add1 hi (by omega), by omega, ?_⟩ (Ent.refl _))
      rw [← hz, ← allz_drop (b := b.drop i) (by simp; omega) (by rw [List.getElem?_drop, Nat.add_zero, List.getElem?_eq_getElem hlt, hx]), List.drop_drop]
  · have hie : b.length ≤ i := by
      have : ¬ st < ((s.len : Nat) : Int) := fun h => hc (decide_eq_true h)
      omega
    refine wps_mapR (wps_pure (ent_val ?_))
    rw [← hz, List.drop_of_length_le hie]; rfl
end Go.Proofs.Ytldmeimebebllaa
namespace Go.Proofs.Ytldmeimebebllaa
open Go.Mo
set_option linter.unusedVariables false
variable {g : Fr} {cv : CV}
theorem wps_arr {α : Type} {H : HP} {Q : α → HP} {k : Int → M α} {l : List Int} {i : Int} (n : Nat) (y : Int) (hi : i = (n : Int)) (hy : l[n]? = some y) (h : wps g H (k y) Q) : wps g H (bindM (arrM l i) k) Q := fun w a Qf ho ha hq => ⟨n, y, hi, hy, h w a Qf ho ha hq⟩
def sumL (s : S4) : List Int := [21331, s.1, s.2.1, s.2.2.1, s.2.2.2]
def sumHead (s : S4) (i : Nat) : List Int := ((sumL s).take i).flatMap (putB 2)
def sumData (s : S4) : List Int := padL (sumHead s 5) 56
theorem sumHead_len (s : S4) : ∀ i, (sumHead s i).length ≤ 2 * i := by
  have : ∀ l : List Int, (l.flatMap (putB 2)).length ≤ 2 * l.length := fun l => by
    induction l with
    | nil => simp
    | cons x l ih =>
      rw [List.flatMap_cons, List.length_append, putB_len, List.length_cons]
      split <;> omega
  intro i
  have h := this ((sumL s).take i)
  unfold sumHead
  simp at h ⊢
  omega
theorem sumHead_snoc {s : S4} {i : Nat} {x : Int} (h : (sumL s)[i]? = some x) : sumHead s (i + 1) = sumHead s i ++ putB 2 x := by
  unfold sumHead
  rw [List.take_add_one, h]
  simp
theorem sumL_get (s : S4) {i : Nat} (hi : i < 5) : ∃ x, (sumL s)[i]? = some x := ⟨_, List.getElem?_eq_getElem (by simpa [sumL] using hi)⟩
theorem sumOk_bnd {q : G3} {s : S4} (h : sumOk q s = true) : ∀ x ∈ sumL s, 0 ≤ x ∧ x < 65536 := by
  unfold sumOk at h
  simp only [Bool.and_eq_true, decide_eq_true_eq] at h
  obtain ⟨hR, hk, hr⟩ := h
  have hb := RightB.bnd hR
  have b6 := hb.s64
  have hp := hb.places.2
  have hs := (segs_places hR).2
  have h4 : 0 ≤ s.2.2.2 ∧ s.2.2.2 ≤ 3776 := by
    split at hr
    · have := of_decide_eq_true hr; omega
    · have := of_decide_eq_true hr; omega
  intro x hx
  simp only [sumL, List.mem_cons, List.not_mem_nil, or_false] at hx
  rcases hx with rfl | rfl | rfl | rfl | rfl <;> omega
def putPost (q : G3) (s : S4) (H : HP) (x : (Int × Int × Slc) × Bool) : HP := if sumOk q s = true then pr (x.1.1 = 65535 ∧ x.1.2.1 = 0 ∧ x.2 = true) * H * own 1 x.1.2.2 (bv (sumData s)) else pr (x = ((0, 0, ⟨none, 0, 0⟩), false)) * H
theorem scan_PutSummary_spec {H : HP} (q : G3) (s : S4) : wps g H (scan_PutSummary q s) (putPost q s H) := by
  unfold scan_PutSummary putPost
  obtain ⟨c, x, b, r⟩ := s
  refine wps_alloc fun x2 => ?_
  refine wps_alloc fun x3 => ?_
  refine wps_alloc fun x4 => ?_
  refine wps_ldG q.1 q.2.1 q.2.2 (by rfl) ?_
  refine wps_ldA (c, x, b, r) (by rfl) ?_
  refine wps_val (scan_right_val q (c, x, b, r)) ?_
  by_cases hok : sumOk q (c, x, b, r) = true
  rotate_left
  · simp only [if_neg hok]
    refine wps_ite (fun _ => ?_) (fun h2 => absurd (by simpa using h2) hok)
    refine wps_stA (by simp) (by simp [Value.oneCell']) ?_
    refine wps_ldA (enc := fun y : (Int × Int × Slc) => [(.int .i64 y.1), (.int .i64 y.2.1), (.slice y.2.2.base y.2.2.len y.2.2.cap)]) (0, 0, ⟨none, 0, 0⟩) (by rfl) (wps_pure (ent_prr rfl ?_))
    exact Ent.trans (Ent.trans (ent_left _ _) (ent_left _ _)) (ent_left _ _)
  simp only [if_pos hok]
  refine wps_ite (fun h2 => absurd hok (by simpa using h2)) (fun _ => ?_)
  refine wps_ld c (by rfl) ?_
  refine wps_ld x (by rfl) ?_
  refine wps_ld b (by rfl) ?_
  refine wps_ld r (by rfl) ?_
  refine wps_loop (fun st => ex fun i : Nat => pr (st.2 = (i : Int) ∧ i ≤ 5) * H * pc x2 [.int .i64 q.1, .int .i64 q.2.1, .int .i64 q.2.2] * pc x3 [.int .i64 c, .int .i64 x, .int .i64 b, .int .i64 r] * pc x4 [.int .i64 0, .int .i64 0, .slice none 0 0] * own 1 st.1 (bv (sumHead (c, x, b, r) i))) (fun st => (5 - st.2).toNat) ?_ fun st => ?_
  · refine ent_ex 0 (ent_own0 (z := 1) ?_)
    simp only [star_assoc]
    exact ent_pr ⟨rfl, by omega⟩
  refine wps_ex fun i => wps_prP fun ⟨hi, hin⟩ => ?_
  refine wps_fact (Ent.trans (ent_right _ _) (own_len _ _ _)) fun hol => ?_
  have hhl := sumHead_len (c, x, b, r) i
  rw [bl, Nat.mul_one] at hol
  refine wps_ite (fun hc => ?_) (fun hc => ?_)
  · have hlt : i < 5 := by have := of_decide_eq_true hc; omega
    obtain ⟨y, hy⟩ := sumL_get (c, x, b, r) hlt
    refine wps_arr i y hi hy ?_
    refine wps_bind (bits_Put_spec 2 y (by decide) (by decide)) fun t => ?_
    have hpl := putB_len 2 y
    refine wps_fact (Ent.trans (ent_right _ _) (own_len _ _ _)) fun hot => ?_
    rw [bl, Nat.mul_one] at hot
    refine wps_app 1 (bv (putB 2 y)) rfl (by decide) (Ent.trans (ent_right _ _) (own_rsl _ _ _)) (by simp [bv, Value.oneCell']) (by split at hpl <;> omega) fun s' hs' => ?_
    refine wps_pure ?_
    refine ent_prr (by dsimp only; rw [range_add1 hi (by omega)]; omega) (ent_ex (i + 1) ?_)
    rw [sumHead_snoc hy, show bv (sumHead (c, x, b, r) i ++ putB 2 y) = bv (sumHead (c, x, b, r) i) ++ bv (putB 2 y) by simp [bv]]
    repeat (first
      | (with_reducible exact ent_drop)
      | (with_reducible refine ent_pick ?_)
      | (refine ent_pickC (by rfl) ?_)
      | (refine ent_pickS (by rfl) ?_)
      | (refine ent_pickM (by rfl) ?_)
      | (refine ent_prx ?_ ?_; rotate_left)
      | (refine ent_prq ?_))
    all_goals exact ⟨range_add1 hi (by omega), by omega⟩
  · have hie : i = 5 := by
      have : ¬ st.2 < 5 := fun h => hc (decide_eq_true h)
      omega
    subst hie
    refine wps_mapR ?_
    refine wps_bind (bits_Pad_spec 56 (Ent.trans (ent_right _ _) (own_rsl _ _ _)) (by decide)) fun t => ?_
    rw [if_pos (by omega)]
    refine wps_prP fun ht => ?_
    refine wps_stA (by simp) (by simp [Value.oneCell']) ?_
    refine wps_ldA (enc := fun y : (Int × Int × Slc) => [(.int .i64 y.1), (.int .i64 y.2.1), (.slice y.2.2.base y.2.2.len y.2.2.cap)]) (65535, 0, t.1) (by rfl) (wps_pure ?_)
    unfold sumData
    repeat (first
      | (with_reducible exact ent_drop)
      | (with_reducible refine ent_pick ?_)
      | (refine ent_pickC (by rfl) ?_)
      | (refine ent_pickS (by rfl) ?_)
      | (refine ent_pickM (by rfl) ?_)
      | (refine ent_prx ?_ ?_; rotate_left)
      | (refine ent_prq ?_))
    all_goals exact ⟨rfl, rfl, rfl⟩
theorem ref08_PutSummary_spec {H : HP} (q : G3) (s : S4) : wps g H (ref08_PutSummary q s) (putPost q s H) := by
  unfold ref08_PutSummary putPost
  obtain ⟨c, x, b, r⟩ := s
  refine wps_alloc fun x2 => ?_
  refine wps_alloc fun x3 => ?_
  refine wps_alloc fun x4 => ?_
  refine wps_ldG q.1 q.2.1 q.2.2 (by rfl) ?_
  refine wps_ldA (c, x, b, r) (by rfl) ?_
  refine wps_val (ref08_Right_val q (c, x, b, r)) ?_
  by_cases hok : sumOk q (c, x, b, r) = true
  rotate_left
  · simp only [if_neg hok]
    refine wps_ite (fun _ => ?_) (fun h2 => absurd (by simpa using h2) hok)
    refine wps_stA (by simp) (by simp [Value.oneCell']) ?_
    refine wps_ldA (enc := fun y : (Int × Int × Slc) => [(.int .i64 y.1), (.int .i64 y.2.1), (.slice y.2.2.base y.2.2.len y.2.2.cap)]) (0, 0, ⟨none, 0, 0⟩) (by rfl) (wps_pure (ent_prr rfl ?_))
    exact Ent.trans (Ent.trans (ent_left _ _) (ent_left _ _)) (ent_left _ _)
  simp only [if_pos hok]
  have hbnd := sumOk_bnd hok
  refine wps_ite (fun h2 => absurd hok (by simpa using h2)) (fun _ => ?_)
  refine wps_ld c (by rfl) ?_
  refine wps_ld x (by rfl) ?_
  refine wps_ld b (by rfl) ?_
  refine wps_ld r (by rfl) ?_
  refine wps_alloc fun x6 => ?_
  refine wps_stA (by simp) (by simp [Value.oneCell']) ?_
  refine wps_alloc fun x23 => ?_
  refine wps_swap (A := pc x23 []) (B := own 1 ⟨some ⟨x23, 0, none⟩, 0, 0⟩ []) (pc_own rfl) ?_
  refine wps_loop (fun st => ex fun i : Nat => pr (st.2 = (i : Int) ∧ i ≤ 5) * H * pc x4 [.int .i64 0, .int .i64 0, .slice none 0 0] * pc x6 (zv (sumL (c, x, b, r))) * own 1 st.1 (bv (sumHead (c, x, b, r) i))) (fun st => (5 - st.2).toNat) ?_ fun st => ?_
  · refine ent_ex 0 ?_
    repeat (first
      | (with_reducible exact ent_drop)
      | (with_reducible refine ent_pick ?_)
      | (refine ent_pickC (by rfl) ?_)
      | (refine ent_pickS (by rfl) ?_)
      | (refine ent_pickM (by rfl) ?_)
      | (refine ent_prx ?_ ?_; rotate_left)
      | (refine ent_prq ?_))
    all_goals first | exact ⟨rfl, by omega⟩ | skip
  refine wps_ex fun i => wps_prP fun ⟨hi, hin⟩ => ?_
  refine wps_fact (Ent.trans (ent_right _ _) (own_len _ _ _)) fun hol => ?_
  have hhl := sumHead_len (c, x, b, r) i
  rw [bl, Nat.mul_one] at hol
  refine wps_ite (fun hc => ?_) (fun hc => ?_)
  · have hlt : i < 5 := by have := of_decide_eq_true hc; omega
    obtain ⟨y, hy⟩ := sumL_get (c, x, b, r) hlt
    refine wps_idxA i hi hlt ?_
    refine wps_ld y (by simp [zv, hy]) ?_
    refine wps_bind (ref01_Put_spec 2 y (by decide) (by decide) (by have := hbnd y (List.mem_of_getElem? hy); omega)) fun t => ?_
    have hpl := putB_len 2 y
    refine wps_fact (Ent.trans (ent_right _ _) (own_len _ _ _)) fun hot => ?_
    rw [bl, Nat.mul_one] at hot
    refine wps_app 1 (bv (putB 2 y)) rfl (by decide) (Ent.trans (ent_right _ _) (own_rsl _ _ _)) (by simp [bv, Value.oneCell']) (by split at hpl <;> omega) fun s' hs' => ?_
    refine wps_pure ?_
    refine ent_prr (by dsimp only; rw [range_add1 hi (by omega)]; omega) (ent_ex (i + 1) ?_)
    rw [sumHead_snoc hy, show bv (sumHead (c, x, b, r) i ++ putB 2 y) = bv (sumHead (c, x, b, r) i) ++ bv (putB 2 y) by simp [bv]]
    repeat (first
      | (with_reducible exact ent_drop)
      | (with_reducible refine ent_pick ?_)
      | (refine ent_pickC (by rfl) ?_)
      | (refine ent_pickS (by rfl) ?_)
      | (refine ent_pickM (by rfl) ?_)
      | (refine ent_prx ?_ ?_; rotate_left)
      | (refine ent_prq ?_))
    all_goals exact ⟨range_add1 hi (by omega), by omega⟩
  have hie : i = 5 := by
    have : ¬ st.2 < 5 := fun h => hc (decide_eq_true h)
    omega
  subst hie
  refine wps_mapR ?_
  refine wps_loop (fun st2 => ex fun n : Nat => pr ((sumHead (c, x, b, r) 5).length + n ≤ 56) * H * pc x4 [.int .i64 0, .int .i64 0, .slice none 0 0] * own 1 st2 (bv (sumHead (c, x, b, r) 5 ++ List.replicate n 0))) (fun st2 => 56 - st2.len) ?_ fun st2 => ?_
  · refine ent_ex 0 ?_
    rw [List.replicate_zero, List.append_nil]
    repeat (first
      | (with_reducible exact ent_drop)
      | (with_reducible refine ent_pick ?_)
      | (refine ent_pickC (by rfl) ?_)
      | (refine ent_pickS (by rfl) ?_)
      | (refine ent_pickM (by rfl) ?_)
      | (refine ent_prx ?_ ?_; rotate_left)
      | (refine ent_prq ?_))
    all_goals omega
  refine wps_ex fun n => wps_prP fun hn => ?_
  refine wps_fact (Ent.trans (ent_right _ _) (own_len _ _ _)) fun hol2 => ?_
  rw [bl, Nat.mul_one, List.length_append, List.length_replicate] at hol2
  refine wps_ite (fun hc => ?_) (fun hc => ?_)
  · have hlt : st2.len < 56 := by have := of_decide_eq_true hc; omega
    refine wps_append1 1 rfl (by decide) rfl (rfl : _ = _ * own 1 st2 _) (by simp [Value.oneCell']) (by omega) fun s' hs' => ?_
    refine wps_pure (ent_prr (by omega) (ent_ex (n + 1) ?_))
    rw [List.replicate_succ', ← List.append_assoc, show ∀ L : List Int, bv (L ++ [0]) = bv L ++ [.int .u8 0] from fun L => by simp [bv]]
    repeat (first
      | (with_reducible exact ent_drop)
      | (with_reducible refine ent_pick ?_)
      | (refine ent_pickC (by rfl) ?_)
      | (refine ent_pickS (by rfl) ?_)
      | (refine ent_pickM (by rfl) ?_)
      | (refine ent_prx ?_ ?_; rotate_left)
      | (refine ent_prq ?_))
    all_goals omega
  · have hie : st2.len = 56 := by
      have : ¬ ((st2.len : Nat) : Int) < 56 := fun h => hc (decide_eq_true h)
      omega
    refine wps_mapR ?_
    refine wps_stA (by simp) (by simp [Value.oneCell']) ?_
    refine wps_ldA (enc := fun y : (Int × Int × Slc) => [(.int .i64 y.1), (.int .i64 y.2.1), (.slice y.2.2.base y.2.2.len y.2.2.cap)]) (65535, 0, st2) (by rfl) (wps_pure ?_)
    unfold sumData padL
    rw [show n = 56 - (sumHead (c, x, b, r) 5).length by omega]
    repeat (first
      | (with_reducible exact ent_drop)
      | (with_reducible refine ent_pick ?_)
      | (refine ent_pickC (by rfl) ?_)
      | (refine ent_pickS (by rfl) ?_)
      | (refine ent_pickM (by rfl) ?_)
      | (refine ent_prx ?_ ?_; rotate_left)
      | (refine ent_prq ?_))
    all_goals exact ⟨rfl, rfl, rfl⟩
end Go.Proofs.Ytldmeimebebllaa
namespace Go.Proofs.Ytldmeimebebllaa
open Go.Mo
set_option linter.unusedVariables false
variable {g : Fr} {cv : CV}
def getS (b : List Int) : S4 := (getB b 2 2, getB b 4 2, getB b 6 2, getB b 8 2)
def sumIs (q : G3) (ow ix : Int) (b : List Int) : Bool := decide (ow = 65535 ∧ ix = 0 ∧ b.length = 56) && (allz (b.drop 10) && (decide (getB b 0 2 = 21331) && sumOk q (getS b)))
def getP (q : G3) (ow ix : Int) (b : List Int) : S4 × Bool := if sumIs q ow ix b = true then (getS b, true) else ((0, 0, 0, 0), false)
def gotL (b : List Int) (i : Nat) : List Int := (List.range 5).map fun j => if j < i then getB b (2 * j) 2 else 0
theorem gotL_set (b : List Int) {i : Nat} (hi : i < 5) : (zv (gotL b i)).set i (.int .i64 (getB b (2 * i) 2)) = zv (gotL b (i + 1)) := by
  apply List.ext_getElem?
  intro j
  simp only [zv, gotL, List.getElem?_set, List.getElem?_map, List.length_map, List.length_range]
  by_cases hj : i = j
  · subst hj; simp [hi]
  · rw [if_neg hj]
    by_cases hjw : j < 5
    · rw [List.getElem?_range hjw]
      have : j < i + 1 ↔ j < i := by omega
      simp [this]
    · simp [List.getElem?_eq_none, Nat.le_of_not_lt hjw]
theorem gotL_all (b : List Int) : zv (gotL b 5) = [.int .i64 (getB b 0 2), .int .i64 (getB b 2 2), .int .i64 (getB b 4 2), .int .i64 (getB b 6 2), .int .i64 (getB b 8 2)] := rfl
theorem scan_GetSummary_val {H : HP} {s : Slc} {b : List Int} (q : G3) (ow ix : Int) (hs : Ent H (byt s b)) (hb : Byts b) (hl : b.length ≤ 1000000) : Val g H (scan_GetSummary q (ow, ix, s)) (getP q ow ix b) := by
  unfold scan_GetSummary
  refine wps_fact (len_of hs) fun hls => ?_
  refine wps_alloc fun x2 => ?_
  refine wps_alloc fun x3 => ?_
  refine wps_alloc fun x4 => ?_
  refine wps_ld ow (by rfl) ?_
  refine wps_val (val_cond (b := ix != 0) fun _ => wps_ld ix (by rfl) (wps_pure (ent_val rfl))) ?_
  refine wps_val (val_cond (b := (((s.len : Nat) : Int) != 56)) fun _ => wps_ld s (by rfl) (wps_pure (ent_val rfl))) ?_
  refine wps_val (v := (ow != 65535 || ix != 0 || (((s.len : Nat) : Int) != 56)) || !allz (b.drop 10)) (val_cond fun hc => ?_) ?_
  · simp only [Bool.or_eq_false_iff, bne_eq_false_iff_eq] at hc
    have h56 : s.len = 56 := by omega
    refine wps_ld s (by rfl) ?_
    refine wps_fact (Ent.trans (Ent.trans (ent_left _ _) (Ent.trans (ent_left _ _) (Ent.trans (ent_left _ _) hs))) rsl_room) fun hr => ?_
    have hr := hr (by omega)
    refine wps_slice 10 s.len rfl rfl (by omega) hr ?_
    refine wps_val (bits_Nought_val (b := b.drop 10) (Ent.trans (Ent.trans (ent_left _ _) (Ent.trans (ent_left _ _) (Ent.trans (ent_left _ _) hs))) (Ent.trans (byt_cut (l := 10) (h := s.len) (by omega) (by omega)) (Ent.of_eq (by rw [List.take_of_length_le (by simp; omega)])))) (by simp; omega)) (wps_pure (ent_val rfl))
  by_cases hc : ow = 65535 ∧ ix = 0 ∧ s.len = 56 ∧ allz (b.drop 10) = true
  rotate_left
  · refine wps_ite (fun _ => ?_) (fun h => absurd ?_ hc)
    · refine wps_stA (by simp) (by simp [Value.oneCell']) ?_
      refine wps_ldA (0, 0, 0, 0) (by rfl) (wps_pure (ent_val ?_))
      unfold getP
      rw [if_neg]
      intro h
      unfold sumIs at h
      simp only [Bool.and_eq_true, decide_eq_true_eq] at h
      exact hc ⟨h.1.1, h.1.2.1, by omega, h.2.1⟩
    · simp only [Bool.or_eq_true, not_or, bne_iff_ne, ne_eq, Decidable.not_not, Bool.not_eq_true', Bool.not_eq_false] at h
      exact ⟨h.1.1.1, h.1.1.2, by omega, h.2⟩
  obtain ⟨rfl, rfl, h56, hz⟩ := hc
  refine wps_ite (fun h => absurd h (by simp [h56, hz])) (fun _ => ?_)
  refine wps_alloc fun x6 => ?_
  refine wps_loop (fun st => ex fun i : Nat => pr (st = (i : Int) ∧ i ≤ 5) * H * pc x2 [.int .i64 q.1, .int .i64 q.2.1, .int .i64 q.2.2] * pc x3 [.int .i64 65535, .int .i64 0, vS s] * pc x4 [.int .i64 0, .int .i64 0, .int .i64 0, .int .i64 0] * pc x6 (zv (gotL b i))) (fun st => (5 - st).toNat) ?_ fun st => ?_
  · refine ent_ex 0 ?_
    repeat (first
      | (with_reducible exact ent_drop)
      | (with_reducible refine ent_pick ?_)
      | (refine ent_pickC (by rfl) ?_)
      | (refine ent_pickS (by rfl) ?_)
      | (refine ent_pickM (by rfl) ?_)
      | (refine ent_prx ?_ ?_; rotate_left)
      | (refine ent_prq ?_))
    all_goals exact ⟨rfl, by omega⟩
  refine wps_ex fun i => wps_prP fun ⟨hi, hin⟩ => ?_
  refine wps_ite (fun hc => ?_) (fun hc => ?_)
  · have hlt : i < 5 := by have := of_decide_eq_true hc; omega
    refine wps_ld s (by rfl) ?_
    have hw : w64 (2 * st) = ((2 * i : Nat) : Int) := by rw [w64_id (by omega) (by omega)]; omega
    rw [hw]
    refine wps_val (bits_Get_val (2 * i) 2 (Ent.trans (ent_left _ _) (Ent.trans (ent_left _ _) (Ent.trans (ent_left _ _) (Ent.trans (ent_left _ _) (Ent.trans (ent_right _ _) hs))))) hb (by decide) (by decide) (by omega) (by omega)) ?_
    refine wps_idxA i hi hlt ?_
    refine wps_st (by simp [zv, gotL]; omega) (wps_pure ?_)
    rw [show 0 + i * 1 = i by omega, gotL_set b hlt]
    refine ent_prr (by rw [range_add1 hi (by omega)]; omega) (ent_ex (i + 1) ?_)
    repeat (first
      | (with_reducible exact ent_drop)
      | (with_reducible refine ent_pick ?_)
      | (refine ent_pickC (by rfl) ?_)
      | (refine ent_pickS (by rfl) ?_)
      | (refine ent_pickM (by rfl) ?_)
      | (refine ent_prx ?_ ?_; rotate_left)
      | (refine ent_prq ?_))
    all_goals exact ⟨range_add1 hi (by omega), by omega⟩
  have hie : i = 5 := by
    have : ¬ st < 5 := fun h => hc (decide_eq_true h)
    omega
  subst hie
  rw [gotL_all]
  refine wps_mapR ?_
  refine wps_ld (getB b 2 2) (by rfl) (wps_ld (getB b 4 2) (by rfl) (wps_ld (getB b 6 2) (by rfl) (wps_ld (getB b 8 2) (by rfl) ?_)))
  refine wps_alloc fun x8 => ?_
  refine wps_stA (by simp) (by simp [Value.oneCell']) ?_
  refine wps_ld (getB b 0 2) (by rfl) ?_
  have hdef : sumIs q 65535 0 b = (decide (getB b 0 2 = 21331) && sumOk q (getS b)) := by
    unfold sumIs
    rw [decide_eq_true (show (65535 : Int) = 65535 ∧ (0 : Int) = 0 ∧ b.length = 56 from ⟨rfl, rfl, by omega⟩), hz]; rfl
  refine wps_val (val_cond (b := !sumOk q (getS b)) fun _ => ?_) ?_
  · refine wps_ldG q.1 q.2.1 q.2.2 (by rfl) ?_
    refine wps_ldA (getS b) (by rfl) ?_
    exact wps_val (scan_right_val q (getS b)) (wps_pure (ent_val rfl))
  unfold getP
  rw [hdef]
  refine wps_ite (fun h => ?_) (fun h => ?_)
  · refine wps_stA (by simp) (by simp [Value.oneCell']) ?_
    refine wps_ldA (0, 0, 0, 0) (by rfl) (wps_pure (ent_val ?_))
    rw [if_neg]
    intro h2
    simp only [Bool.or_eq_true, bne_iff_ne, ne_eq, Bool.not_eq_true', Bool.and_eq_true, decide_eq_true_eq] at h h2
    rcases h with h | h
    · exact h h2.1
    · rw [h2.2] at h; cases h
  · refine wps_ldA (getS b) (by rfl) ?_
    refine wps_stA (by simp) (by simp [Value.oneCell']) ?_
    refine wps_ldA (getS b) (by rfl) (wps_pure (ent_val ?_))
    simp only [Bool.or_eq_true, not_or, bne_iff_ne, ne_eq, Decidable.not_not, Bool.not_eq_true', Bool.not_eq_false] at h
    rw [if_pos (by simp [h.1, h.2])]
theorem ref08_GetSummary_val {H : HP} {s : Slc} {b : List Int} (q : G3) (ow ix : Int) (hs : Ent H (byt s b)) (hb : Byts b) (hl : b.length ≤ 1000000) : Val g H (ref08_GetSummary q (ow, ix, s)) (getP q ow ix b) := by
  unfold ref08_GetSummary
  refine wps_fact (len_of hs) fun hls => ?_
  refine wps_alloc fun x2 => ?_
  refine wps_alloc fun x3 => ?_
  refine wps_alloc fun x4 => ?_
  refine wps_ld ow (by rfl) ?_
  refine wps_val (val_cond (b := ix != 0) fun _ => wps_ld ix (by rfl) (wps_pure (ent_val rfl))) ?_
  refine wps_val (val_cond (b := (((s.len : Nat) : Int) != 56)) fun _ => wps_ld s (by rfl) (wps_pure (ent_val rfl))) ?_
  refine wps_val (v := (ow != 65535 || ix != 0 || (((s.len : Nat) : Int) != 56)) || !allz (b.drop 10)) (val_cond fun hc => ?_) ?_
  · simp only [Bool.or_eq_false_iff, bne_eq_false_iff_eq] at hc
    have h56 : s.len = 56 := by omega
    refine wps_ld s (by rfl) ?_
    refine wps_fact (Ent.trans (Ent.trans (ent_left _ _) (Ent.trans (ent_left _ _) (Ent.trans (ent_left _ _) hs))) rsl_room) fun hr => ?_
    have hr := hr (by omega)
    refine wps_slice 10 s.len rfl rfl (by omega) hr ?_
    refine wps_val (ref01_Nought_val (b := b.drop 10) (Ent.trans (Ent.trans (ent_left _ _) (Ent.trans (ent_left _ _) (Ent.trans (ent_left _ _) hs))) (Ent.trans (byt_cut (l := 10) (h := s.len) (by omega) (by omega)) (Ent.of_eq (by rw [List.take_of_length_le (by simp; omega)])))) (by simp; omega)) (wps_pure (ent_val rfl))
  by_cases hc : ow = 65535 ∧ ix = 0 ∧ s.len = 56 ∧ allz (b.drop 10) = true
  rotate_left
  · refine wps_ite (fun _ => ?_) (fun h => absurd ?_ hc)
    · refine wps_stA (by simp) (by simp [Value.oneCell']) ?_
      refine wps_ldA (0, 0, 0, 0) (by rfl) (wps_pure (ent_val ?_))
      unfold getP
      rw [if_neg]
      intro h
      unfold sumIs at h
      simp only [Bool.and_eq_true, decide_eq_true_eq] at h
      exact hc ⟨h.1.1, h.1.2.1, by omega, h.2.1⟩
    · simp only [Bool.or_eq_true, not_or, bne_iff_ne, ne_eq, Decidable.not_not, Bool.not_eq_true', Bool.not_eq_false] at h
      exact ⟨h.1.1.1, h.1.1.2, by omega, h.2⟩
  obtain ⟨rfl, rfl, h56, hz⟩ := hc
  refine wps_ite (fun h => absurd h (by simp [h56, hz])) (fun _ => ?_)
  refine wps_alloc fun x6 => ?_
  refine wps_stA (by simp) (by simp [Value.oneCell']) ?_
  refine wps_loop (fun st => ex fun i : Nat => pr (st = (i : Int) ∧ i ≤ 5) * H * pc x2 [.int .i64 q.1, .int .i64 q.2.1, .int .i64 q.2.2] * pc x3 [.int .i64 65535, .int .i64 0, vS s] * pc x4 [.int .i64 0, .int .i64 0, .int .i64 0, .int .i64 0] * pc x6 (zv (gotL b i))) (fun st => (5 - st).toNat) ?_ fun st => ?_
  · refine ent_ex 0 ?_
    repeat (first
      | (with_reducible exact ent_drop)
      | (with_reducible refine ent_pick ?_)
      | (refine ent_pickC (by rfl) ?_)
      | (refine ent_pickS (by rfl) ?_)
      | (refine ent_pickM (by rfl) ?_)
      | (refine ent_prx ?_ ?_; rotate_left)
      | (refine ent_prq ?_))
    all_goals exact ⟨rfl, by omega⟩
  refine wps_ex fun i => wps_prP fun ⟨hi, hin⟩ => ?_
  refine wps_ite (fun hc => ?_) (fun hc => ?_)
  · have hlt : i < 5 := by have := of_decide_eq_true hc; omega
    refine wps_ld s (by rfl) ?_
    have hw : w64 (2 * st) = ((2 * i : Nat) : Int) := by rw [w64_id (by omega) (by omega)]; omega
    rw [hw]
    refine wps_val (ref01_Get_val (2 * i) 2 (Ent.trans (ent_left _ _) (Ent.trans (ent_left _ _) (Ent.trans (ent_left _ _) (Ent.trans (ent_left _ _) (Ent.trans (ent_right _ _) hs))))) hb (by decide) (by decide) (by omega) (by omega)) ?_
    refine wps_idxA i hi hlt ?_
    refine wps_st (by simp [zv, gotL]; omega) (wps_pure ?_)
    rw [show 0 + i * 1 = i by omega, gotL_set b hlt]
    refine ent_prr (by rw [range_add1 hi (by omega)]; omega) (ent_ex (i + 1) ?_)
    repeat (first
      | (with_reducible exact ent_drop)
      | (with_reducible refine ent_pick ?_)
      | (refine ent_pickC (by rfl) ?_)
      | (refine ent_pickS (by rfl) ?_)
      | (refine ent_pickM (by rfl) ?_)
      | (refine ent_prx ?_ ?_; rotate_left)
      | (refine ent_prq ?_))
    all_goals exact ⟨range_add1 hi (by omega), by omega⟩
  have hie : i = 5 := by
    have : ¬ st < 5 := fun h => hc (decide_eq_true h)
    omega
  subst hie
  rw [gotL_all]
  refine wps_mapR ?_
  refine wps_ld (getB b 2 2) (by rfl) (wps_ld (getB b 4 2) (by rfl) (wps_ld (getB b 6 2) (by rfl) (wps_ld (getB b 8 2) (by rfl) ?_)))
  refine wps_alloc fun x8 => ?_
  refine wps_stA (by simp) (by simp [Value.oneCell']) ?_
  refine wps_ld (getB b 0 2) (by rfl) ?_
  have hdef : sumIs q 65535 0 b = (decide (getB b 0 2 = 21331) && sumOk q (getS b)) := by
    unfold sumIs
    rw [decide_eq_true (show (65535 : Int) = 65535 ∧ (0 : Int) = 0 ∧ b.length = 56 from ⟨rfl, rfl, by omega⟩), hz]; rfl
  refine wps_val (val_cond (b := !sumOk q (getS b)) fun _ => ?_) ?_
  · refine wps_ldG q.1 q.2.1 q.2.2 (by rfl) ?_
    refine wps_ldA (getS b) (by rfl) ?_
    exact wps_val (ref08_Right_val q (getS b)) (wps_pure (ent_val rfl))
  unfold getP
  rw [hdef]
  refine wps_ite (fun h => ?_) (fun h => ?_)
  · refine wps_stA (by simp) (by simp [Value.oneCell']) ?_
    refine wps_ldA (0, 0, 0, 0) (by rfl) (wps_pure (ent_val ?_))
    rw [if_neg]
    intro h2
    simp only [Bool.or_eq_true, bne_iff_ne, ne_eq, Bool.not_eq_true', Bool.and_eq_true, decide_eq_true_eq] at h h2
    rcases h with h | h
    · exact h h2.1
    · rw [h2.2] at h; cases h
  · refine wps_ldA (getS b) (by rfl) ?_
    refine wps_stA (by simp) (by simp [Value.oneCell']) ?_
    refine wps_ldA (getS b) (by rfl) (wps_pure (ent_val ?_))
    simp only [Bool.or_eq_true, not_or, bne_iff_ne, ne_eq, Decidable.not_not, Bool.not_eq_true', Bool.not_eq_false] at h
    rw [if_pos (by simp [h.1, h.2])]
end Go.Proofs.Ytldmeimebebllaa
namespace Go.Proofs.Ytldmeimebebllaa
open Go.Mo
set_option linter.unusedVariables false
variable {g : Fr} {cv : CV}
theorem addr0 (a : Addr) : Addr.add a 0 = a := by
  cases a; simp [Addr.add]
theorem wps_rdG {α β : Type} {H : HP} {Q : α → HP} {enc : β → Value} {k : β → M α} {z : Nat} {s : Slc} {i : Int} {cs : List Value} (n : Nat) (x : β) (hp : Ent H (rsl z s cs)) (hi : i = (n : Int)) (hz : 0 < z) (hv : cs[n * z]? = some (enc x)) (h : wps g H (k x) Q) :
    wps g H (bindM (idxM s i z) fun a => bindM (ld enc a) k) Q := by
  have h2 := wps_rdF (f := 0) (g := g) (k := k) n x hp hi hz hv h
  simp only [addr0] at h2
  exact h2
theorem law08_Small_val {H : HP} : Val g H law08_Small Q3 := by
  unfold law08_Small
  refine wps_alloc fun c => ?_
  refine wps_stA (by simp) (by simp [Value.oneCell']) ?_
  exact wps_ldG 3 3 12 (by rfl) (wps_pure (ent_val rfl))
theorem zv_get {b : List Int} {n : Nat} {v : Int} (h : b[n]? = some v) : (zv b)[n]? = some (Value.int .i64 v) := by simp [zv, h]
theorem intsP_len {H : HP} {s : Slc} {b : List Int} (h : Ent H (intsP s b)) : Ent H (pr (b.length = s.len)) := Ent.trans h (Ent.trans (rsl_len 1 s (zv b)) fun o ho => by
  have : (zv b).length = s.len * 1 := ho
  show b.length = s.len
  simpa [zv] using this)
theorem ref00_SameInts_val {H : HP} {a b : Slc} {x y : List Int} (ha : Ent H (intsP a x)) (hb : Ent H (intsP b y)) (hx : x.length < 4611686018427387904) : Val g H (ref00_SameInts a b) (decide (x = y)) := by
  unfold ref00_SameInts
  refine wps_fact (intsP_len ha) fun hla => wps_fact (intsP_len hb) fun hlb => ?_
  refine wps_ite (fun hne => ?_) (fun hne => ?_)
  · refine wps_pure (ent_val ?_)
    have hne' : ¬ a.len = b.len := by
      have : ¬ (a.len : Int) = b.len := by simpa using hne
      omega
    have : ¬ x = y := fun e => hne' (by rw [← hla, ← hlb, e])
    simp [this]
  have heq : a.len = b.len := by
    have : (a.len : Int) = b.len := by simpa using hne
    omega
  refine wps_loop (fun i => ex fun n : Nat => pr (i = (n : Int) ∧ n ≤ x.length ∧ x.take n = y.take n) * H) (fun i => (x.length - i).toNat) (ent_ex 0 (ent_prr ⟨rfl, by omega, by simp⟩ (Ent.refl _))) fun i => ?_
  refine wps_ex fun n => wps_pr fun ⟨hi, hn, ht⟩ => ?_
  refine wps_ite (fun hc => ?_) (fun hc => ?_)
  · have hlt : n < x.length := by simp only [decide_eq_true_eq] at hc; omega
    have hlt2 : n < y.length := by omega
    refine wps_regionH ?_
    refine wps_rdI n x[n] ha (Ent.refl _) hi (zv_get (List.getElem?_eq_getElem hlt)) ?_
    refine wps_rdI n y[n] hb (Ent.refl _) hi (zv_get (List.getElem?_eq_getElem hlt2)) ?_
    refine wps_ite (fun hd => ?_) (fun hd => ?_)
    · have hd' : ¬ x[n] = y[n] := by simpa using hd
      refine wps_mapR (wps_pure (ent_prr ?_ (Ent.refl _)))
      have : ¬ x = y := fun e => hd' (by subst e; rfl)
      simp [this]
    · have hd' : x[n] = y[n] := by simpa using hd
      refine wps_pure (ent_prr (by rw [range_add1 hi (by omega)]; omega) (ent_ex (n + 1) (ent_prr ⟨range_add1 hi (by omega), by omega, ?_⟩ (Ent.refl _))))
      rw [List.take_add_one, List.take_add_one, ht, List.getElem?_eq_getElem hlt, List.getElem?_eq_getElem hlt2, hd']
  · have hne : n = x.length := by simp only [decide_eq_true_eq] at hc; omega
    refine wps_mapR (wps_pure (ent_prr ?_ (Ent.refl _)))
    have : x = y := by
      rw [hne, List.take_length] at ht
      rw [ht, List.take_of_length_le (by omega)]
    simp [this]
def aliveI : List I6 := [(5, 8, 2, 1, 0, 3), (2, 7, 2, 0, 0, 0)]
theorem aliveI_isG : IsG aliveI [(7, 3, [2, 5])] := by
  have h : IsG ([([2, 5], 7, 3)].flatMap chk) ([([2, 5], 7, 3)].map gOf) := Lay.isG ⟨by simp, by simp⟩
  exact h.perm (List.Perm.swap (2, 7, 2, 0, 0, 0) (5, 8, 2, 1, 0, 3) [])
theorem sumD9 : sumOk Q3 (1, 0, 2, 9) = true ∧ getP Q3 65535 0 (sumData (1, 0, 2, 9)) = ((1, 0, 2, 9), true) ∧ (sumData (1, 0, 2, 9)).length = 56 ∧ Byts (sumData (1, 0, 2, 9)) := by
  refine ⟨by decide, by decide, by decide, ?_⟩
  have : ∀ n ∈ sumData (1, 0, 2, 9), 0 ≤ n ∧ n < 256 := by decide
  exact this
theorem law08_alive_spec : Val g emp law08_alive true := by
  unfold law08_alive
  refine wps_alloc fun x10 => ?_
  refine wps_swap (A := pc x10 [(.int .i64 5), (.int .i64 8), (.int .i64 2), (.int .i64 1), (.int .i64 0), (.int .i64 3), (.int .i64 2), (.int .i64 7), (.int .i64 2), (.int .i64 0), (.int .i64 0), (.int .i64 0)]) (B := infosP ⟨some ⟨x10, 0, none⟩, 2, 2⟩ aliveI) (ent_prr (by decide) (Ent.trans (pc_own (n := 2) (z := 6) rfl) (own_rsl _ _ _))) ?_
  refine wps_callH (fun g2 => scan_Groups_spec _ aliveI _ aliveI_isG (by decide)) fun x11 => ?_
  unfold groupsO
  refine wps_exP fun zs => ?_
  refine wps_prP fun hz => ?_
  obtain ⟨u, rfl⟩ : ∃ u, zs = [((7, 3, [2, 5]), u)] := by
    match zs, hz with
    | [(z, u)], hz => exact ⟨u, by simp at hz; rw [hz]⟩
  refine wps_swap (A := segsP [(((7, 3, [2, 5]) : Gr), u)]) (B := intsP u [2, 5]) (segsP_get (x := ((7, 3, [2, 5]), u)) (by simp)) ?_
  refine wps_fact (Ent.trans (RdS.rd (z := 3) (s := x11)) (rsl_len _ _ _)) fun hol => ?_
  have hl1 : x11.len = 1 := by simp [encG3, grRow] at hol; omega
  refine wps_val law08_Small_val ?_
  refine wps_bind (scan_PutSummary_spec Q3 (1, 0, 2, 9)) fun x15 => ?_
  unfold putPost
  rw [if_pos sumD9.1]
  refine wps_prP fun ⟨hx1, hx2, hx3⟩ => ?_
  obtain ⟨⟨w1, w2, t⟩, ok⟩ := x15
  dsimp only at hx1 hx2 hx3
  subst hx1 hx2 hx3
  refine wps_alloc fun x2 => ?_
  refine wps_stA (by simp) (by simp [Value.oneCell']) ?_
  refine wps_regionH ?_
  refine wps_ldAI (enc := fun y : (Int × Int × Slc) => [(.int .i64 y.1), (.int .i64 y.2.1), (.slice y.2.2.base y.2.2.len y.2.2.cap)]) (65535, 0, t) (by rfl) ?_
  have hget : ∀ {H : HP} [h : RdS 1 t H (bv (sumData (1, 0, 2, 9)))], Val g H (scan_GetSummary Q3 (65535, 0, t)) ((1, 0, 2, 9), true) := fun {H} h => val_eq (scan_GetSummary_val Q3 65535 0 h.rd sumD9.2.2.2 (by rw [sumD9.2.2.1]; decide)) sumD9.2.1
  refine wps_both (wps_stepV law08_Small_val (wps_both ?_ ?_)) ?_
  · refine wps_stepV hget (wps_stepAlloc fun x4 => ?_)
    refine wps_stA (by simp) (by simp [Value.oneCell']) ?_
    refine wps_val (v := true) (wps_ite (fun _ => wps_rdG 0 7 (RdS.rd (z := 3) (s := x11)) rfl (by decide) rfl (wps_pure (ent_val rfl))) (fun h => absurd (by simp [hl1]) h)) ?_
    refine wps_val (v := true) (wps_ite (fun _ => wps_rdF (f := 1) 0 3 (RdS.rd (z := 3) (s := x11)) rfl (by decide) rfl (wps_pure (ent_val rfl))) (fun h => absurd rfl h)) ?_
    refine wps_val (v := true) (wps_ite (fun _ => wps_rdF (enc := vS) (f := 2) 0 u (RdS.rd (z := 3) (s := x11)) rfl (by decide) rfl (wps_alloc fun x46 => wps_val (ref00_SameInts_val (x := [2, 5]) (y := [2, 5]) (RdS.rd (z := 1) (s := u)) (rsl_pc (cs := zv [2, 5]) rfl) (by decide)) (wps_pure (ent_val rfl)))) (fun h => absurd rfl h)) ?_
    refine wps_val (v := true) (wps_ite (fun _ => wps_pure (ent_val rfl)) (fun h => absurd rfl h)) ?_
    refine wps_val (v := true) (wps_ite (fun _ => wps_pure (ent_val rfl)) (fun h => absurd rfl h)) ?_
    refine wps_val (v := true) (wps_ite (fun _ => wps_ldA (1, 0, 2, 9) (by rfl) (wps_pure (ent_val rfl))) (fun h => absurd rfl h)) ?_
    exact wps_pure (ent_val rfl)
  · refine wps_stepAlloc fun x4 => wps_stepV hget ?_
    refine wps_stA (by simp) (by simp [Value.oneCell']) ?_
    refine wps_val (v := true) (wps_ite (fun _ => wps_rdG 0 7 (RdS.rd (z := 3) (s := x11)) rfl (by decide) rfl (wps_pure (ent_val rfl))) (fun h => absurd (by simp [hl1]) h)) ?_
    refine wps_val (v := true) (wps_ite (fun _ => wps_rdF (f := 1) 0 3 (RdS.rd (z := 3) (s := x11)) rfl (by decide) rfl (wps_pure (ent_val rfl))) (fun h => absurd rfl h)) ?_
    refine wps_val (v := true) (wps_ite (fun _ => wps_rdF (enc := vS) (f := 2) 0 u (RdS.rd (z := 3) (s := x11)) rfl (by decide) rfl (wps_alloc fun x46 => wps_val (ref00_SameInts_val (x := [2, 5]) (y := [2, 5]) (RdS.rd (z := 1) (s := u)) (rsl_pc (cs := zv [2, 5]) rfl) (by decide)) (wps_pure (ent_val rfl)))) (fun h => absurd rfl h)) ?_
    refine wps_val (v := true) (wps_ite (fun _ => wps_pure (ent_val rfl)) (fun h => absurd rfl h)) ?_
    refine wps_val (v := true) (wps_ite (fun _ => wps_pure (ent_val rfl)) (fun h => absurd rfl h)) ?_
    refine wps_val (v := true) (wps_ite (fun _ => wps_ldA (1, 0, 2, 9) (by rfl) (wps_pure (ent_val rfl))) (fun h => absurd rfl h)) ?_
    exact wps_pure (ent_val rfl)
  · refine wps_stepAlloc fun x4 => wps_stepV law08_Small_val (wps_stepV hget ?_)
    refine wps_stA (by simp) (by simp [Value.oneCell']) ?_
    refine wps_val (v := true) (wps_ite (fun _ => wps_rdG 0 7 (RdS.rd (z := 3) (s := x11)) rfl (by decide) rfl (wps_pure (ent_val rfl))) (fun h => absurd (by simp [hl1]) h)) ?_
    refine wps_val (v := true) (wps_ite (fun _ => wps_rdF (f := 1) 0 3 (RdS.rd (z := 3) (s := x11)) rfl (by decide) rfl (wps_pure (ent_val rfl))) (fun h => absurd rfl h)) ?_
    refine wps_val (v := true) (wps_ite (fun _ => wps_rdF (enc := vS) (f := 2) 0 u (RdS.rd (z := 3) (s := x11)) rfl (by decide) rfl (wps_alloc fun x46 => wps_val (ref00_SameInts_val (x := [2, 5]) (y := [2, 5]) (RdS.rd (z := 1) (s := u)) (rsl_pc (cs := zv [2, 5]) rfl) (by decide)) (wps_pure (ent_val rfl)))) (fun h => absurd rfl h)) ?_
    refine wps_val (v := true) (wps_ite (fun _ => wps_pure (ent_val rfl)) (fun h => absurd rfl h)) ?_
    refine wps_val (v := true) (wps_ite (fun _ => wps_pure (ent_val rfl)) (fun h => absurd rfl h)) ?_
    refine wps_val (v := true) (wps_ite (fun _ => wps_ldA (1, 0, 2, 9) (by rfl) (wps_pure (ent_val rfl))) (fun h => absurd rfl h)) ?_
    exact wps_pure (ent_val rfl)
end Go.Proofs.Ytldmeimebebllaa
namespace Go.Proofs.Ytldmeimebebllaa
open Go.Mo
set_option linter.unusedVariables false
variable {g : Fr} {cv : CV}
theorem byt_empty {H : HP} {s : Slc} (h : s.len = 0) : Ent H (byt s []) := fun o ho => Or.inl ⟨h, rfl⟩
theorem eqL_same (l : List Int) : eqL l l = true := by unfold eqL; simp
def putO (q : G3) (s : S4) : Int := if sumOk q s = true then 65535 else 0
def putC (q : G3) (s : S4) : List Int := if sumOk q s = true then sumData s else []
theorem putC_len (q : G3) (s : S4) : (putC q s).length ≤ 1000 := by
  unfold putC
  split
  · have := sumHead_len s 5
    simp [sumData, padL]; omega
  · simp
theorem put_weak (q : G3) (s : S4) (H : HP) (x : (Int × Int × Slc) × Bool) : Ent (putPost q s H x) (pr (x.1.1 = putO q s ∧ x.1.2.1 = 0 ∧ x.2 = sumOk q s) * H * byt x.1.2.2 (putC q s)) := by
  unfold putPost putO putC
  by_cases h : sumOk q s = true
  · simp only [if_pos h]
    rw [star_assoc, star_assoc]
    exact pr_ent fun ⟨h1, h2, h3⟩ => ent_prr ⟨h1, h2, h3.trans h.symm⟩ (Ent.starr (own_rsl _ _ _))
  · simp only [if_neg h]
    rw [star_assoc]
    refine pr_ent fun hx => ent_prr ?_ ?_
    · rw [hx]; exact ⟨rfl, rfl, by simpa using h⟩
    · rw [hx]
      exact Ent.trans (Ent.of_eq (star_emp _).symm) (Ent.starr (byt_empty rfl))
theorem law08_ScanSummaries_spec (q : G3) (s : S4) (ow ix : Int) (t : Slc) (b : List Int) (hb : Byts b) : wps g (byt t b) (law08_ScanSummaries q s (ow, ix, t)) (fun x => pr (x = true)) := by
  unfold law08_ScanSummaries
  obtain ⟨sc, sx, sb, sr⟩ := s
  refine wps_fact (len_of (Ent.refl _)) fun hl => ?_
  refine wps_alloc fun x3 => ?_
  refine wps_alloc fun x4 => ?_
  refine wps_alloc fun x5 => ?_
  refine wps_bind (R := fun x => byt t b * pc x3 [.int .i64 q.1, .int .i64 q.2.1, .int .i64 q.2.2] * pc x4 [.int .i64 sc, .int .i64 sx, .int .i64 sb, .int .i64 sr] * pc x5 [.int .i64 ow, .int .i64 ix, vS t] * (pr (x = true) * emp)) (wps_pre (Ent.of_eq (star_emp _).symm) (wps_framel fun g2 => law08_alive_spec)) fun x15 => ?_
  refine wps_prP fun hx => ?_
  subst hx
  refine wps_ite (fun h => absurd h (by decide)) (fun _ => ?_)
  refine wps_ld t (by rfl) ?_
  refine wps_ite (fun _ => wps_pure (fun o ho => rfl)) (fun hbig => ?_)
  have hle : b.length ≤ 1000 := by
    have : ¬ ((t.len : Nat) : Int) > 1000 := fun h => hbig (decide_eq_true h)
    omega
  refine wps_ldG q.1 q.2.1 q.2.2 (by rfl) ?_
  refine wps_ldA (sc, sx, sb, sr) (by rfl) ?_
  refine wps_bind (wps_post (scan_PutSummary_spec q (sc, sx, sb, sr)) fun x => put_weak q (sc, sx, sb, sr) _ x) fun x24 => ?_
  refine wps_prP fun hx24 => ?_
  obtain ⟨⟨w1, w2, u⟩, o1⟩ := x24
  obtain ⟨rfl, rfl, rfl⟩ := hx24
  refine wps_alloc fun x7 => ?_
  refine wps_stA (by simp) (by simp [Value.oneCell']) ?_
  refine wps_ldG q.1 q.2.1 q.2.2 (by rfl) ?_
  refine wps_ldA (sc, sx, sb, sr) (by rfl) ?_
  refine wps_bind (wps_post (ref08_PutSummary_spec q (sc, sx, sb, sr)) fun x => put_weak q (sc, sx, sb, sr) _ x) fun x30 => ?_
  refine wps_prP fun hx30 => ?_
  obtain ⟨⟨w3, w4, v⟩, o2⟩ := x30
  obtain ⟨rfl, rfl, rfl⟩ := hx30
  refine wps_alloc fun x9 => ?_
  refine wps_stA (by simp) (by simp [Value.oneCell']) ?_
  have hG : ∀ {H : HP} [h : RdS 1 t H (bv b)], Val g H (scan_GetSummary q (ow, ix, t)) (getP q ow ix b) := fun {H} h => scan_GetSummary_val q ow ix h.rd hb (by omega)
  have hR : ∀ {H : HP} [h : RdS 1 t H (bv b)], Val g H (ref08_GetSummary q (ow, ix, t)) (getP q ow ix b) := fun {H} h => ref08_GetSummary_val q ow ix h.rd hb (by omega)
  refine wps_ldG q.1 q.2.1 q.2.2 (by rfl) ?_
  refine wps_ldA (enc := fun y : (Int × Int × Slc) => [(.int .i64 y.1), (.int .i64 y.2.1), (.slice y.2.2.base y.2.2.len y.2.2.cap)]) (ow, ix, t) (by rfl) ?_
  refine wps_val hG ?_
  generalize getP q ow ix b = P at *
  refine wps_alloc fun x11 => ?_
  refine wps_stA (by simp) (by simp [Value.oneCell']) ?_
  refine wps_ldG q.1 q.2.1 q.2.2 (by rfl) ?_
  refine wps_ldA (enc := fun y : (Int × Int × Slc) => [(.int .i64 y.1), (.int .i64 y.2.1), (.slice y.2.2.base y.2.2.len y.2.2.cap)]) (ow, ix, t) (by rfl) ?_
  refine wps_val hR ?_
  refine wps_alloc fun x13 => ?_
  refine wps_stA (by simp) (by simp [Value.oneCell']) ?_
  refine wps_ld (putO q (sc, sx, sb, sr)) (by rfl) (wps_ld (putO q (sc, sx, sb, sr)) (by rfl) ?_)
  refine wps_val (v := true) (wps_ite (fun _ => wps_ld 0 (by rfl) (wps_ld 0 (by rfl) (wps_pure (ent_val rfl)))) (fun h => absurd (by simp) h)) ?_
  refine wps_val (v := true) (wps_ite (fun _ => wps_ld u (by rfl) (wps_ld v (by rfl) (wps_val (ref00_SameBytes_val (x := putC q (sc, sx, sb, sr)) (y := putC q (sc, sx, sb, sr)) (RdS.rd (z := 1) (s := u)) (RdS.rd (z := 1) (s := v)) (by have := putC_len q (sc, sx, sb, sr); omega)) (wps_pure (ent_val (by simp)))))) (fun h => absurd rfl h)) ?_
  refine wps_val (v := true) (wps_ite (fun _ => wps_pure (ent_val (by simp))) (fun h => absurd rfl h)) ?_
  refine wps_val (v := true) (wps_ite (fun _ => wps_ldA P.1 (by rfl) (wps_ldA P.1 (by rfl) (wps_pure (ent_val (eqL_same _))))) (fun h => absurd rfl h)) ?_
  refine wps_val (v := true) (wps_ite (fun _ => wps_pure (ent_val (by simp))) (fun h => absurd rfl h)) ?_
  exact wps_pure (fun o ho => rfl)
end Go.Proofs.Ytldmeimebebllaa
namespace Go.Mo
open Go.RowKit
set_option linter.unusedVariables false
def full (W : World) : Hp := fun i => (W.heap[i]?).map fun ob => (ob, true)
def fullF (W : World) : Fr := ⟨full W, W.os, W.output⟩
theorem full_own (W : World) : Own W (full W) (fullF W) := by
  have hok : Hp.ok (full W) W := fun x ob r h => by
    simp only [full, Option.map_eq_some_iff, Prod.mk.injEq] at h
    obtain ⟨ob', h, rfl, _⟩ := h
    exact h
  refine ⟨fun x => ?_, hok, hok, rfl, rfl⟩
  cases h : full W x with
  | none => exact .inl rfl
  | some p =>
    obtain ⟨ob, r⟩ := p
    right; right
    simp only [full, Option.map_eq_some_iff, Prod.mk.injEq] at h
    obtain ⟨ob', h, rfl, rfl⟩ := h
    exact ⟨ob', rfl, by simp [fullF, full, h]⟩
structure Kept (W w' : World) : Prop where
  frame : W.keptBut w' (fun _ => False)
  block : ∀ (i : Nat) ob, W.heap[i]? = some ob → w'.heap[i]? = some ob
theorem kept_of_own {W w' : World} {a : Hp} (h : Own w' a (fullF W)) : Kept W w' := by
  have hh : ∀ (i : Nat) ob, W.heap[i]? = some ob → w'.heap[i]? = some ob := fun i ob hi => h.2.2.1 i ob true (by simp [fullF, full, hi])
  refine ⟨⟨h.2.2.2.os, h.2.2.2.out, fun i hi => ?_⟩, hh⟩
  rw [hh i _ (Array.getElem?_eq_getElem hi), Array.getElem?_eq_getElem hi]
  cases W.heap[i] with
  | cells c t fr => exact ⟨rfl, rfl, rfl, fun _ _ => rfl⟩
  | map es clock => exact .inr ⟨rfl, rfl⟩
  | _ => rfl
theorem Kept.same {W w' : World} (h : Kept W w') {b : Nat} (hb : b < W.heap.size) : w'.heap[b]? = W.heap[b]? :=
  (h.block b _ (Array.getElem?_eq_getElem hb)).trans (Array.getElem?_eq_getElem hb).symm
open Go.ChangeShapes Go.WideShapes in
theorem post_of_kept {H : Type} {enc : TypeId × Value → H} {P : Program} {f : Func} {s : ChangeSpec} {apart fresh handsOn again : Bool} {W W' : World} {args : Array Value} {v : Value} {ds gs : List (DataW H)} {before pa pv : List MemPlace}
    (hW : DataW.Whole enc P f.params.toList s.vars apart W args.toList ds gs before)
    (hres : ∀ (b : Nat) (sp : Nat → Bool) (hd : Bool), DataW.TrodAll enc P W' b sp hd f.resultTypes.toList (v.resultList f.resultTypes.size) (s.fn H (ds ++ gs)).results [])
    (hargs : ∀ sp : Nat → Bool, (∀ p ∈ before, sp p.block = true) → DataW.TrodAll enc P W' 0 sp true f.params.toList args.toList (s.fn H (ds ++ gs)).args pa)
    (hvars : ∀ sp : Nat → Bool, (∀ p ∈ before, sp p.block = true) → DataW.TrodVars enc P W' sp s.vars (s.fn H (ds ++ gs)).vars pv)
    (hps : before = pa ++ pv) (hk : Kept W W')
    (hok : ∀ (j : Nat) (t : TypeId) (r : Value), f.resultTypes[j]? = some t → (v.resultList f.resultTypes.size)[j]? = some r → Value.okWide P W' .any 0 t r) :
    s.post enc P f apart fresh handsOn again W args v W' := by
  have hold : ∀ p ∈ before, (fun b => decide (b < W.heap.size)) p.block = true := fun p hp => by simpa using hW.lt p hp
  refine ⟨ds, gs, before, [], pa, pv, hW, hres _ _ _, hargs _ hold, hvars _ hold, World.keptBut_mono (fun p hp => hp.elim) hk.frame, fun _ => ?_⟩
  have hlt := hW.lt
  obtain ⟨_, _, _, _, _, hz, hn⟩ := hW
  refine ⟨hok, _, _, ([] ++ pa) ++ pv, ⟨[] ++ pa, pv, trodAll_append (hargs _ (fun _ _ => rfl)) (hres _ _ _), hvars _ (fun _ _ => rfl), rfl, ?_, ?_⟩, ?_⟩
  · intro b off hp
    have hp' : MemPlace.cell b off ∈ before := by rw [hps]; simpa using hp
    have hb : b < W.heap.size := hlt _ hp'
    have := hz b off hp'
    unfold World.frozen? at this ⊢
    rw [show W'.heap[(⟨b, off, none⟩ : Addr).block]? = W.heap[(⟨b, off, none⟩ : Addr).block]? from hk.same hb]
    exact this
  · intro ha
    have := hn ha
    rw [hps] at this
    simpa using this
  · intro p hp _
    rw [hps]
    simpa using hp
theorem wps_run {m : M Bool} {H : HP} (h : ∀ g, wps g H m fun b => pr (b = true)) (W : World) (hH : H.p (full W)) : m (fun b w' => b = true ∧ Kept W w') W :=
  h (fullF W) W (full W) _ (full_own W) hH fun x w' a' ho hb => ⟨hb, kept_of_own ho⟩
theorem calls_law {P : Program} {f : FuncId} {args : Array Value} {W : World} (h : Calls P f args W (RetPost Value.bool fun b w' => b = true ∧ Kept W w')) : Calls P f args W fun e w' => e = .returned (.bool true) ∧ Kept W w' :=
  h.mono fun e w' he => by
    cases e with
    | returned v =>
      obtain ⟨b, rfl, rfl, hg⟩ := he
      exact ⟨rfl, hg⟩
    | panicked c => exact he.elim
    | outgrown => exact he.elim
theorem trodAll_carry {H : Type} {enc : TypeId × Value → H} {P : Program} {w w' : World} {base : Nat} {spare : Nat → Bool} {held : Bool} : ∀ {ts : List TypeId} {vs : List Value} {ds : List (DataW H)} {ps : List MemPlace},
    DataW.TrodAll enc P w base spare held ts vs ds ps → (∀ p ∈ ps, w.sameAt w' p) → DataW.TrodAll enc P w' base spare held ts vs ds ps
  | [], [], [], _, h, _ => h
  | _ :: _, _ :: _, _ :: _, _, ⟨p, q, ⟨n, h1⟩, h2, e⟩, hs => ⟨p, q, ⟨n, DataW.trod_carry n _ _ _ h1 fun x hx => hs x (by rw [e]; exact List.mem_append_left _ hx)⟩,
      trodAll_carry h2 (fun x hx => hs x (by rw [e]; exact List.mem_append_right _ hx)), e⟩
theorem args_again {H : Type} {enc : TypeId × Value → H} {P : Program} {W W' : World} (hg : Kept W W') (kids : Kids P (· < P.types.size)) (fulls : ∀ t e, t < P.types.size → P.underlying t = some (.slice e) → 0 < P.cellsOf e)
    {ts : List TypeId} (hts : ∀ t ∈ ts, t < P.types.size) {vs : List Value} {ds : List (DataW H)} {ps : List MemPlace} (h : DataW.TrodAll enc P W 0 (fun _ => true) true ts vs ds ps) {sp : Nat → Bool} (hs : ∀ p ∈ ps, sp p.block = true) (hlt : ∀ p ∈ ps, p.block < W.heap.size) :
    DataW.TrodAll enc P W' 0 sp true ts vs ds ps :=
  trodAll_carry (DataW.TrodAll.respare kids fulls hts h hs) fun p hp => by
    have hb := hlt p hp
    have he := hg.same hb
    cases p with
    | cell b o => simp only [World.sameAt, World.cell?]; rw [show W'.heap[b]? = W.heap[b]? from he]
    | map b => exact he
end Go.Mo
namespace Go.Proofs.Ytldmeimebebllaa
open Go.Mo
set_option linter.unusedVariables false
theorem rsl_full {W : World} {a : Addr} {len cap : Nat} {cs : List Value} (hl : len ≤ cap) (hz : cs.length = len) (hc : ∀ i, i < len → W.cell? (a.add i) = cs[i]?) : (rsl 1 ⟨some a, len, cap⟩ cs).p (full W) := by
  by_cases h0 : len = 0
  · left
    exact ⟨h0, List.eq_nil_of_length_eq_zero (by omega)⟩
  · right
    have hc0 := hc 0 (by omega)
    have ha0 : a.add 0 = a := by simp [Addr.add]
    rw [ha0, List.getElem?_eq_getElem (by omega)] at hc0
    have hsp := World.cell?_spot hc0
    obtain ⟨b, off, sp⟩ := a
    simp only at hsp
    subst hsp
    unfold World.cell? at hc0
    cases hb : W.heap[b]? with
    | none => simp [hb] at hc0
    | some ob =>
      cases ob with
      | cells c e f =>
        refine ⟨⟨b, off, none⟩, c.toList, ent_prr (A := ro b c.toList) (B := ro b c.toList) ⟨rfl, by simpa using hz, hl, ?_⟩ (Ent.refl _) _ ⟨e, f, true, by simp [full, hb]⟩⟩
        apply List.ext_getElem?
        intro i
        simp only [Nat.mul_one]
        rw [List.getElem?_take]
        by_cases hi : i < len
        · rw [if_pos hi, List.getElem?_drop, ← hc i hi, Addr.add_mk]
          simp [World.cell?, hb]
        · rw [if_neg hi, List.getElem?_eq_none (by omega)]
      | _ => simp [hb] at hc0
theorem byt_full {W : World} {a : Addr} {len cap : Nat} {zs : List Int} (hl : len ≤ cap) (hz : zs.length = cap) (hc : ∀ i, i < zs.length → W.cell? (a.add i) = some (.int .u8 (zs.getD i 0))) : (byt ⟨some a, len, cap⟩ (zs.take len)).p (full W) := by
  refine rsl_full hl (by simp [bv]; omega) fun i hi => ?_
  rw [hc i (by omega), bv, List.getElem?_map, List.getElem?_take, if_pos hi, List.getElem?_eq_getElem (by omega)]
  simp [List.getD_eq_getElem?_getD, List.getElem?_eq_getElem (show i < zs.length by omega)]
theorem byt_full_nil (W : World) : (byt ⟨none, 0, 0⟩ []).p (full W) := .inl ⟨rfl, rfl⟩
end Go.Proofs.Ytldmeimebebllaa
namespace Go.Proofs.Ytldmeimebebllaa
open Go.Mo
set_option linter.unusedVariables false
theorem wf_u8 {n : Int} (h : (Lit.int .u8 n).wf = true) : 0 ≤ n ∧ n < 256 := by
  simp only [Lit.wf, Bool.and_eq_true, decide_eq_true_eq] at h
  have h1 : IntKind.u8.min = 0 := rfl
  have h2 : IntKind.u8.max = 255 := rfl
  omega
end Go.Proofs.Ytldmeimebebllaa
namespace Go.Proofs.Ytldmeimebebllaa
open Go.Mo Go.ChangeShapes Go.Deep 
set_option linter.unusedVariables false
section
variable {H : Type} {enc : TypeId × Value → H} {P : Program} {W : World} {base : Nat}
structure Flds (enc : TypeId × Value → H) (P : Program) (W : World) (base n : Nat) (fs : Array Field) (cs : List Value) (xs : List (DataW H × List MemPlace)) : Prop where
  each : ∀ (i : Nat) (f : Field), fs[i]? = some f → DataW.trod enc P W base (fun _ => true) true n f.type ((cs.drop f.offset).take (P.cellsOf f.type)) = xs[i]?
  len : xs.length = fs.size
theorem one_of {cs : List Value} {o : Nat} {v : Value} (h : (cs.drop o).take 1 = [v]) : cs[o]? = some v := by
  have := congrArg (fun l => l[0]?) h
  simpa using this
theorem Flds.int {n : Nat} {fs : Array Field} {cs : List Value} {xs : List (DataW H × List MemPlace)} (h : Flds enc P W base n fs cs xs) (i : Nat) {f : Field} (hf : fs[i]? = some f) (hu : P.underlying f.type = some (.int .i64)) (hc : P.cellsOf f.type = 1) :
    ∃ q : Int, cs[f.offset]? = some (.int .i64 q) ∧ (Lit.int .i64 q).wf = true := by
  have h1 := h.each i f hf
  rw [hc] at h1
  have hi : i < xs.length := by rw [h.len]; exact (Array.getElem?_eq_some_iff.1 hf).1
  rw [List.getElem?_eq_getElem hi] at h1
  obtain ⟨q, hq, _, hw⟩ := DataW.trod_int hu h1
  exact ⟨q, one_of hq, hw⟩
theorem Flds.slice {n : Nat} {fs : Array Field} {cs : List Value} {xs : List (DataW H × List MemPlace)} (h : Flds enc P W base n fs cs xs) (i : Nat) {f : Field} (hf : fs[i]? = some f) {e : TypeId} {k : IntKind} (hu : P.underlying f.type = some (.slice e)) (hc : P.cellsOf f.type = 1)
    (he : P.underlying e = some (.int k)) (hce : P.cellsOf e = 1) (hbe : 0 < P.bytesOf e) (hw : ∀ y, xs[i]? = some y → ∀ q ∈ y.1.weights P f.type, q ≤ reachBytes) :
    ∃ (s : Slc) (b : List Int), cs[f.offset]? = some (.slice s.base s.len s.cap) ∧ (rsl 1 s (b.map (Value.int k))).p (full W) ∧ (∀ q ∈ b, (Lit.int k q).wf = true) ∧ b.length ≤ 140737488355328 := by
  have h1 := h.each i f hf
  rw [hc] at h1
  have hi : i < xs.length := by rw [h.len]; exact (Array.getElem?_eq_some_iff.1 hf).1
  rw [List.getElem?_eq_getElem hi] at h1
  have hwi := hw _ (List.getElem?_eq_getElem hi)
  rcases open_ints hu he hce h1 with ⟨hcs, hx⟩ | ⟨a, len, cap, zs, hcs, hba, hle, hcap, hzl, hx, hcell, hwf⟩
  · exact ⟨⟨none, 0, 0⟩, [], one_of hcs, .inl ⟨rfl, rfl⟩, by simp, by simp⟩
  · have hzl' : zs.length = cap := by simpa using hzl
    refine ⟨⟨some a, len, cap⟩, zs.take len, one_of hcs, ?_, fun q hq => hwf q (List.mem_of_mem_take hq), ?_⟩
    · refine rsl_full hle (by simp; omega) fun j hj => ?_
      rw [hcell j (by omega), List.getElem?_map, List.getElem?_take, if_pos hj, List.getElem?_eq_getElem (by omega)]
      simp [List.getD_eq_getElem?_getD, List.getElem?_eq_getElem (show j < zs.length by omega)]
    · rw [hx] at hwi
      have := hwi (((lits (H := H) k (zs.take len)).length + (lits (H := H) k (zs.drop len)).length) * P.bytesOf e) (by simp [DataW.weights, hu])
      have h2 : reachBytes = 140737488351232 := rfl
      have h3 : (lits (H := H) k (zs.take len)).length + (lits (H := H) k (zs.drop len)).length = zs.length := by simp [lits]; omega
      rw [h3] at this
      have h4 : zs.length * 1 ≤ zs.length * P.bytesOf e := Nat.mul_le_mul_left _ hbe
      simp only [List.length_take]; omega
instance : Inhabited CallA := ⟨⟨0, 0, 0, ⟨none, 0, 0⟩, [], ⟨none, 0, 0⟩, []⟩⟩
end
end Go.Proofs.Ytldmeimebebllaa
namespace Go.Proofs.Ytldmeimebebllaa
open Go.Mo Go.ChangeShapes Go.Deep 
set_option linter.unusedVariables false
section
variable {H : Type} {enc : TypeId × Value → H} {P : Program} {W : World} {base : Nat}
instance : Inhabited CallB := ⟨⟨0, 0, 0, ⟨none, 0, 0⟩, [], (0, 0, 0)⟩⟩
end
end Go.Proofs.Ytldmeimebebllaa
namespace Go.Proofs.Ytldmeimebebllaa
open Go.Mo Go.ChangeShapes Go.Deep 
set_option linter.unusedVariables false
section
variable {H : Type} {enc : TypeId × Value → H} {P : Program} {W : World} {base : Nat}
instance : Inhabited BlkA := ⟨BlkA.nil⟩
theorem wf_byts {b : List Int} (h : ∀ q ∈ b, (Lit.int .u8 q).wf = true) : Byts b := fun n hn => wf_u8 (h n hn)
end
end Go.Proofs.Ytldmeimebebllaa
