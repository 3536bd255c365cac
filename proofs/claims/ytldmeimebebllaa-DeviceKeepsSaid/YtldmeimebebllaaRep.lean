/-
  a part of the proof: what functions of the program do, in a separation logic.
-/
import Derived.Test.YtldmeimebebllaaMoSL5
import Derived.Test.YtldmeimebebllaaLD
import Derived.Test.YtldmeimebebllaaG1
namespace Go.Proofs.Ytldmeimebebllaa
open Go.Mo
set_option linter.unusedVariables false

/-! ## parts that may be read -/
def imp (p : Prop) (A : HP) : HP := ⟨fun o => p → A.p o, fun hl h hp => A.up hl (h hp)⟩
instance (p : Prop) (A : HP) [h : Pers A] : Pers (imp p A) := ⟨fun o ho hp => h.core o (ho hp)⟩
def bv (b : List Int) : List Value := b.map (Value.int .u8)
def byt (s : Slc) (b : List Int) : HP := rsl 1 s (bv b)
instance (s : Slc) (b : List Int) : Pers (byt s b) := by unfold byt; infer_instance
theorem bv_one (b : List Int) : ∀ v ∈ bv b, v.oneCell' = true := by
  intro v hv
  simp only [bv, List.mem_map] at hv
  obtain ⟨n, _, rfl⟩ := hv
  rfl
def seqp (l : List Slc) (f : Nat → List Int) : HP := al fun k : Nat => al fun s : Slc => imp (l[k]? = some s) (byt s (f k))
instance (l : List Slc) (f : Nat → List Int) : Pers (seqp l f) := by unfold seqp; infer_instance
theorem seqp_nil (A : HP) (f : Nat → List Int) : Ent A (seqp [] f) := fun o _ k s h => by simp at h
theorem seqp_get {l : List Slc} {f : Nat → List Int} {k : Nat} {s : Slc} (h : l[k]? = some s) : Ent (seqp l f) (byt s (f k)) := fun o ho => ho k s h
theorem seqp_snoc {A : HP} {l : List Slc} {f : Nat → List Int} {s : Slc} (h : Ent A (seqp l f)) (hs : Ent A (byt s (f l.length))) : Ent A (seqp (l ++ [s]) f) := fun o ho k t hk => by
  by_cases hlt : k < l.length
  · rw [List.getElem?_append_left hlt] at hk
    exact h o ho k t hk
  · have : k = l.length := by
      have := (List.getElem?_eq_some_iff.1 hk).1
      simp only [List.length_append, List.length_singleton] at this
      omega
    subst this
    simp at hk
    subst hk
    exact hs o ho
theorem seqp_set {A : HP} {l : List Slc} {f : Nat → List Int} {k : Nat} {s : Slc} {b : List Int} (h : Ent A (seqp l f)) (hs : Ent A (byt s b)) : Ent A (seqp (l.set k s) (fun j => if j = k then b else f j)) := fun o ho j t hj => by
  by_cases hjk : j = k
  · subst hjk
    rw [List.getElem?_set] at hj
    simp only [if_true] at hj
    split at hj
    · cases hj; simp only [if_true]; exact hs o ho
    · cases hj
  · rw [List.getElem?_set_ne (fun e => hjk e.symm)] at hj
    simp only [if_neg hjk]
    exact h o ho j t hj
def cachep (sc : Int → Slc) (c : Int → Option (List Int)) : HP := al fun k : Int => al fun b : List Int => imp (c k = some b) (byt (sc k) b)
instance (sc : Int → Slc) (c : Int → Option (List Int)) : Pers (cachep sc c) := by unfold cachep; infer_instance
theorem cachep_nil (A : HP) (sc : Int → Slc) : Ent A (cachep sc fun _ => none) := fun o _ k b h => by cases h
theorem cachep_get {sc : Int → Slc} {c : Int → Option (List Int)} {k : Int} {b : List Int} (h : c k = some b) : Ent (cachep sc c) (byt (sc k) b) := fun o ho => ho k b h
theorem cachep_put {A : HP} {sc : Int → Slc} {c : Int → Option (List Int)} {k : Int} {s : Slc} {b : List Int} (h : Ent A (cachep sc c)) (hs : Ent A (byt s b)) :
    Ent A (cachep (fun j => if j = k then s else sc j) (fun j => if j = k then some b else c j)) := fun o ho j b' hj => by
  by_cases hjk : j = k
  · subst hjk
    simp only [if_true] at hj ⊢
    cases hj
    exact hs o ho
  · simp only [if_neg hjk] at hj ⊢
    exact h o ho j b' hj

/-! ## many parts side by side -/
def bst : Nat → (Nat → HP) → HP
  | 0, _ => emp
  | n + 1, F => bst n F * F n
theorem bst_congr {n : Nat} {F F' : Nat → HP} (h : ∀ i, i < n → F i = F' i) : bst n F = bst n F' := by
  induction n with
  | zero => rfl
  | succ n ih => simp only [bst]; rw [ih fun i hi => h i (by omega), h n (by omega)]
def hole (j : Nat) (F : Nat → HP) : Nat → HP := fun i => if i = j then emp else F i
theorem bst_focus {n j : Nat} (F : Nat → HP) (hj : j < n) : bst n F = bst n (hole j F) * F j := by
  induction n with
  | zero => omega
  | succ n ih =>
    simp only [bst]
    by_cases h : j = n
    · subst h
      have : bst j (hole j F) = bst j F := bst_congr fun i hi => by simp only [hole]; rw [if_neg (by omega)]
      rw [this]
      simp only [hole, if_true, star_emp]
    · rw [ih (by omega), star_right_comm]
      congr 1
      simp only [hole]
      rw [if_neg (fun e => h e.symm)]
theorem hole_congr {n j : Nat} {F F' : Nat → HP} (h : ∀ i, i < n → i ≠ j → F i = F' i) : bst n (hole j F) = bst n (hole j F') := bst_congr fun i hi => by
  simp only [hole]
  split
  · rfl
  · rename_i hne; exact h i hi hne

theorem bst_put {n j : Nat} {F F' : Nat → HP} (hj : j < n) (h : ∀ i, i < n → i ≠ j → F i = F' i) : bst n F' = bst n (hole j F) * F' j := by
  rw [bst_focus F' hj, hole_congr h]
theorem ent_bst {n j : Nat} {F F' : Nat → HP} {B H : HP} (hj : j < n) (h : ∀ i, i < n → i ≠ j → F i = F' i) (h' : Ent H (B * bst n (hole j F) * F' j)) : Ent H (B * bst n F') := by
  rw [bst_put hj h, ← star_assoc]; exact h'
/-! ## the rack -/
structure Dk where
  lasts : Nat → List Int
  cached : Int → Option (List Int)
  failed : Bool
  count : Int
/-- sectors have 64 bytes; only sectors are cached -/
def Dk.ok (D : Dk) (ns : Nat) : Prop := (∀ k, k < ns → (D.lasts k).length = 64) ∧ ∀ j b, D.cached j = some b → b.length = 64 ∧ 0 ≤ j ∧ j < ns
structure Rk where
  n : Nat
  ns : Nat
  dk : Nat → Dk
  count : Int
  off : Bool
def pv (b : Nat) : Value := .pointer (some ⟨b, 0, none⟩)
def dskX (ns p : Nat) (D : Dk) (ls : Slc) (mb : Nat) (sl : List Slc) (sc : Int → Slc) : HP :=
  pr (sl.length = ns ∧ ls.len = ns ∧ D.ok ns) * (seqp sl D.lasts * cachep sc D.cached) * imap mb (fun j => (D.cached j).map fun _ => vS (sc j)) * own 1 ls (sl.map vS) * pc p [vS ls, .map (some mb), .bool D.failed, .int .i64 D.count]
def dskAt (ns p : Nat) (D : Dk) : HP := ex fun ls : Slc => ex fun mb : Nat => ex fun sl : List Slc => ex fun sc : Int → Slc => dskX ns p D ls mb sl sc
def rackF (ns : Nat) (dk : Nat → Dk) (ps : List Nat) : Nat → HP := fun j => dskAt ns (ps.getD j 0) (dk j)
def rackP (rb : Nat) (R : Rk) (ds : Slc) (ps : List Nat) : HP :=
  pr (ps.length = R.n ∧ ds.len = R.n ∧ R.n ≤ 17 ∧ R.ns ≤ 4096) * bst R.n (rackF R.ns R.dk ps) * own 1 ds (ps.map pv) * pc rb [vS ds, .int .i64 R.ns, .int .i64 R.count, .bool R.off]
def rack (rb : Nat) (R : Rk) : HP := ex fun ds : Slc => ex fun ps : List Nat => rackP rb R ds ps
def noughts : List Int := List.replicate 64 0
def Dk.new : Dk := ⟨fun _ => noughts, fun _ => none, false, -1⟩
def Rk.new (n s : Nat) : Rk := ⟨n, s, fun _ => Dk.new, -1, false⟩
abbrev ptr (b : Nat) : Option Addr := some ⟨b, 0, none⟩
end Go.Proofs.Ytldmeimebebllaa
