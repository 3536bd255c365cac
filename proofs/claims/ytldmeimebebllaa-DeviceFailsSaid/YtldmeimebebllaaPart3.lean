/-
  A part of the proof: predicate transformers over the model, and a separation logic over them; what functions of the program do.
-/
import Derived.Test.YtldmeimebebllaaPart2
set_option linter.unusedSimpArgs false
namespace Go.Proofs.Ytldmeimebebllaa
open Go.Mo
set_option linter.unusedVariables false
variable {g : Fr} {cv : CV}
theorem ref00_CopyBytes_spec {H : HP} {s : Slc} {b : List Int} (hx : Ent H (byt s b)) (hb : b.length ≤ 1099511627776) : wps g H (ref00_CopyBytes s) (fun s' => H * own 1 s' (bv b)) := by
  unfold ref00_CopyBytes
  refine wps_fact (len_of hx) fun hl => ?_
  repeat (first
    | (with_reducible refine wps_bindpure ?_)
    | (with_reducible refine wps_assoc ?_)
    | (with_reducible refine wps_nil ?_)
    | (with_reducible refine wps_stepAlloc fun _ => ?_)
    | (with_reducible refine wps_alloc fun _ => ?_)
    | (with_reducible refine wps_newO fun _ => ?_)
    | (refine wps_ld _ (by rfl) ?_)
    | (refine wps_ldG _ _ _ (by rfl) ?_)
    | (refine wps_ldA _ (by rfl) ?_)
    | (refine wps_ldI _ (by rfl) ?_)
    | (refine wps_ldGI _ _ _ (by rfl) ?_)
    | (refine wps_ldAI _ (by rfl) ?_)
    | (refine wps_st (by simp) ?_)
    | (refine wps_stA (by simp) (by simp [Value.oneCell']) ?_)
    | ((with_reducible apply wps_val); apply val_ite; rotate_left; refine fun (_ : ¬ _) => ?_; rotate_right; refine fun (_ : _ = true) => ?_)
    | ((with_reducible apply val_ite); rotate_left; refine fun (_ : ¬ _) => ?_; rotate_right; refine fun (_ : _ = true) => ?_)
    | (with_reducible refine wps_regionH ?_)
    | ((with_reducible apply wps_bindV); apply val_iteL; rotate_left; refine fun (_ : ¬ _) => ?_; rotate_right; refine fun (_ : _ = true) => ?_)
    | ((with_reducible apply val_iteL); rotate_left; refine fun (_ : ¬ _) => ?_; rotate_right; refine fun (_ : _ = true) => ?_)
    | (with_reducible exact wps_pure (ent_val rfl)))
  rename_i c
  refine wps_swap (A := pc c []) (B := own 1 ⟨some ⟨c, 0, none⟩, 0, 0⟩ []) (pc_own (n := 0) (z := 1) rfl) ?_
  refine wps_app 1 (bv b) rfl (by decide) (Ent.trans (ent_left _ _) hx) (bv_one b) (by (try dsimp only); omega) fun s' hs' => ?_
  exact wps_pure (Ent.of_eq (by simp))
theorem ref00_CopyInts_spec {H : HP} {s : Slc} {b : List Int} (hx : Ent H (intsP s b)) (hb : b.length ≤ 1073741824) : wps g H (ref00_CopyInts s) (fun s' => H * own 1 s' (zv b)) := by
  unfold ref00_CopyInts
  refine wps_fact (ilen_of hx) fun hl => ?_
  repeat (first
    | (with_reducible refine wps_bindpure ?_)
    | (with_reducible refine wps_assoc ?_)
    | (with_reducible refine wps_nil ?_)
    | (with_reducible refine wps_stepAlloc fun _ => ?_)
    | (with_reducible refine wps_alloc fun _ => ?_)
    | (with_reducible refine wps_newO fun _ => ?_)
    | (refine wps_ld _ (by rfl) ?_)
    | (refine wps_ldG _ _ _ (by rfl) ?_)
    | (refine wps_ldA _ (by rfl) ?_)
    | (refine wps_ldI _ (by rfl) ?_)
    | (refine wps_ldGI _ _ _ (by rfl) ?_)
    | (refine wps_ldAI _ (by rfl) ?_)
    | (refine wps_st (by simp) ?_)
    | (refine wps_stA (by simp) (by simp [Value.oneCell']) ?_)
    | ((with_reducible apply wps_val); apply val_ite; rotate_left; refine fun (_ : ¬ _) => ?_; rotate_right; refine fun (_ : _ = true) => ?_)
    | ((with_reducible apply val_ite); rotate_left; refine fun (_ : ¬ _) => ?_; rotate_right; refine fun (_ : _ = true) => ?_)
    | (with_reducible refine wps_regionH ?_)
    | ((with_reducible apply wps_bindV); apply val_iteL; rotate_left; refine fun (_ : ¬ _) => ?_; rotate_right; refine fun (_ : _ = true) => ?_)
    | ((with_reducible apply val_iteL); rotate_left; refine fun (_ : ¬ _) => ?_; rotate_right; refine fun (_ : _ = true) => ?_)
    | (with_reducible exact wps_pure (ent_val rfl)))
  rename_i c
  refine wps_swap (A := pc c []) (B := own 1 ⟨some ⟨c, 0, none⟩, 0, 0⟩ []) (pc_own (n := 0) (z := 1) rfl) ?_
  refine wps_app 1 (zv b) rfl (by decide) (Ent.trans (ent_left _ _) hx) (zv_one b) (by (try dsimp only); omega) fun s' hs' => ?_
  exact wps_pure (Ent.of_eq (by simp))
/-- counters are numbers from -1 on -/
structure Rk.cok (R : Rk) : Prop where
  pow : -1 ≤ R.count ∧ R.count < 9223372036854775808
  dks : ∀ j, -1 ≤ (R.dk j).count ∧ (R.dk j).count < 9223372036854775808
structure RQ (R : Rk) (l1 l2 l3 l4 : Slc) (sl cl : List Slc) (cs : List Int) : Prop where
  hsl : sl.length = R.n * R.ns
  hcl : cl.length = R.n * R.ns
  hcs : cs.length = R.n
  n17 : R.n ≤ 17
  ns4 : R.ns ≤ 4096
  hl1 : l1.len = R.n * R.ns
  hl2 : l2.len = R.n * R.ns
  hl3 : l3.len = R.n
  hl4 : l4.len = R.n
  ok : ∀ j, j < R.n → (R.dk j).ok R.ns
  cnt : ∀ j, j < R.n → (R.dk j).failed = false → cs[j]? = some (R.dk j).count
  cok : R.cok
def refC4 (R : Rk) (l1 l2 l3 l4 : Slc) : List Value := [.int .i64 R.n, .int .i64 R.ns, vS l1, vS l2, vS l3, vS l4, .int .i64 R.count, .bool R.off]
def refX4 (mb : Nat) (R : Rk) (l1 l2 l3 l4 : Slc) (sl cl : List Slc) (cs : List Int) : HP :=
  pr (RQ R l1 l2 l3 l4 sl cl cs) * seqp sl (rlast R) * seqp cl (rcach R) * own 1 l1 (sl.map vS) * own 1 l2 (cl.map vS) * own 1 l3 (bads R) * own 1 l4 (zv cs) * pc mb [.int .i64 R.n, .int .i64 R.ns, vS l1, vS l2, vS l3, vS l4, .int .i64 R.count, .bool R.off]
def refQ (mb : Nat) (R : Rk) (l1 l2 l3 l4 : Slc) : HP := ex fun sl : List Slc => ex fun cl : List Slc => ex fun cs : List Int => refX4 mb R l1 l2 l3 l4 sl cl cs
theorem ok_new (s : Nat) : Dk.new.ok s := ⟨fun _ _ => by simp [Dk.new, noughts], fun _ _ h => by cases h⟩
theorem cok_new (n s : Nat) : (Rk.new n s).cok := ⟨by simp [Rk.new], fun j => by simp [Rk.new, Dk.new]⟩
theorem refQ_new {mb : Nat} {v : RefT} {n s : Nat} : Ent (refV v (Rk.new n s) * pc mb (refC v)) (refQ mb (Rk.new n s) v.2.2.1 v.2.2.2.1 v.2.2.2.2.1 v.2.2.2.2.2.1) := by
  unfold refV refX
  rw [ex_star]
  refine ex_ent fun sl => ?_
  rw [ex_star]
  refine ex_ent fun cl => ?_
  simp only [star_assoc]
  refine pr_ent fun h => ?_
  simp only [← star_assoc]
  refine ent_ex sl (ent_ex cl (ent_ex (List.replicate n (-1)) ?_))
  unfold refX4
  have h1 := h.n; have h2 := h.ns; have h3 := h.count; have h4 := h.off
  refine ent_pickC (by simp only [refC]; rw [h1, h2, h3, h4]) (ent_pickS ?_ ?_)
  · simp only [cnts, zv, List.map_replicate]
    rw [show (fun j => Value.int .i64 ((Rk.new n s).dk j).count) = fun _ => Value.int .i64 (-1) from rfl]
    rw [List.map_const']; simp [Rk.new]
  · repeat (first
      | (with_reducible exact ent_drop)
      | (with_reducible refine ent_pick ?_)
      | (refine ent_pickC (by rfl) ?_)
      | (refine ent_pickS (by rfl) ?_)
      | (refine ent_pickM (by rfl) ?_)
      | (refine ent_prx ?_ ?_; rotate_left)
      | (refine ent_prq ?_))
    refine ⟨h.sl, h.cl, by simp [Rk.new], h.n17, h.ns4, h.l1, h.l2, h.l3, h.l4, fun j _ => ok_new _, fun j hj _ => ?_, cok_new n s⟩
    have : j < n := hj
    simp [Rk.new, Dk.new, this]
theorem flat_div {k s ns : Nat} (h : s < ns) : (k * ns + s) / ns = k ∧ (k * ns + s) % ns = s := by
  have h0 : 0 < ns := by omega
  rw [Nat.mul_comm]
  refine ⟨?_, ?_⟩
  · rw [Nat.mul_add_div h0, Nat.div_eq_of_lt h]; omega
  · rw [Nat.mul_add_mod, Nat.mod_eq_of_lt h]
theorem flat_lt {k s n ns : Nat} (hk : k < n) (hs : s < ns) : k * ns + s < n * ns := by
  have : (k + 1) * ns ≤ n * ns := Nat.mul_le_mul_right _ hk
  rw [Nat.add_mul] at this; omega
theorem flat_w {k s : Int} {n ns : Nat} (hk : 0 ≤ k ∧ k < n) (hs : 0 ≤ s ∧ s < ns) (h17 : n ≤ 17) (h4 : ns ≤ 4096) : w64 (w64 (k * (ns : Int)) + s) = ((k.toNat * ns + s.toNat : Nat) : Int) := by
  obtain ⟨K, rfl⟩ : ∃ K : Nat, k = (K : Int) := ⟨k.toNat, by omega⟩
  obtain ⟨S, rfl⟩ : ∃ S : Nat, s = (S : Int) := ⟨s.toNat, by omega⟩
  have h1 : K * ns ≤ 17 * 4096 := Nat.mul_le_mul (by omega) h4
  rw [← Int.natCast_mul, w64_id (n := ((K * ns : Nat) : Int)) (by omega) (by omega), w64_id] <;> (try simp only [Int.toNat_natCast]) <;> omega
def thereB (R : Rk) (k s : Int) : Bool := decide (0 ≤ k ∧ k < R.n ∧ 0 ≤ s ∧ s < R.ns)
theorem ref02_there_val (mb : Nat) (R : Rk) (l1 l2 l3 l4 : Slc) (k s : Int) : Val g (refQ mb R l1 l2 l3 l4) (ref02_Rack_there (ptr mb) k s) (thereB R k s) := by
  unfold ref02_Rack_there refQ refX4
  refine wps_ex fun sl => wps_ex fun cl => wps_ex fun cs => ?_
  refine wps_conseq (H' := pr (RQ R l1 l2 l3 l4 sl cl cs) * seqp sl (rlast R) * seqp cl (rcach R) * own 1 l1 (sl.map vS) * own 1 l2 (cl.map vS) * own 1 l3 (bads R) * own 1 l4 (zv cs) * pc mb [.int .i64 R.n, .int .i64 R.ns, vS l1, vS l2, vS l3, vS l4, .int .i64 R.count, .bool R.off]) (Q' := fun x => pr (x = thereB R k s) * (pr (RQ R l1 l2 l3 l4 sl cl cs) * seqp sl (rlast R) * seqp cl (rcach R) * own 1 l1 (sl.map vS) * own 1 l2 (cl.map vS) * own 1 l3 (bads R) * own 1 l4 (zv cs) * pc mb [.int .i64 R.n, .int .i64 R.ns, vS l1, vS l2, vS l3, vS l4, .int .i64 R.count, .bool R.off])) ?_ (Ent.refl _) (fun x => Ent.starr (ent_ex sl (ent_ex cl (ent_ex cs (Ent.refl _)))))
  apply val_eq
  · repeat (first
      | (with_reducible refine wps_bindpure ?_)
      | (with_reducible refine wps_assoc ?_)
      | (with_reducible refine wps_nil ?_)
      | (with_reducible refine wps_stepAlloc fun _ => ?_)
      | (with_reducible refine wps_alloc fun _ => ?_)
      | (with_reducible refine wps_newO fun _ => ?_)
      | (refine wps_ld _ (by rfl) ?_)
      | (refine wps_ldG _ _ _ (by rfl) ?_)
      | (refine wps_ldA _ (by rfl) ?_)
      | (refine wps_ldI _ (by rfl) ?_)
      | (refine wps_ldGI _ _ _ (by rfl) ?_)
      | (refine wps_ldAI _ (by rfl) ?_)
      | (refine wps_st (by simp) ?_)
      | (refine wps_stA (by simp) (by simp [Value.oneCell']) ?_)
      | ((with_reducible apply wps_val); apply val_ite; rotate_left; refine fun (_ : ¬ _) => ?_; rotate_right; refine fun (_ : _ = true) => ?_)
      | ((with_reducible apply val_ite); rotate_left; refine fun (_ : ¬ _) => ?_; rotate_right; refine fun (_ : _ = true) => ?_)
      | (with_reducible refine wps_regionH ?_)
      | ((with_reducible apply wps_bindV); apply val_iteL; rotate_left; refine fun (_ : ¬ _) => ?_; rotate_right; refine fun (_ : _ = true) => ?_)
      | ((with_reducible apply val_iteL); rotate_left; refine fun (_ : ¬ _) => ?_; rotate_right; refine fun (_ : _ = true) => ?_)
      | (with_reducible exact wps_pure (ent_val rfl)))
  · unfold thereB
    by_cases a : 0 ≤ k <;> by_cases b : k < (R.n : Int) <;> by_cases c : 0 ≤ s <;> by_cases d : s < (R.ns : Int) <;> simp [a, b, c, d]
theorem ref02_Failed_val (mb : Nat) (R : Rk) (l1 l2 l3 l4 : Slc) (k : Int) : Val g (refQ mb R l1 l2 l3 l4) (ref02_Rack_Failed (ptr mb) k) (R.failedB k) := by
  unfold ref02_Rack_Failed refQ refX4
  refine wps_ex fun sl => wps_ex fun cl => wps_ex fun cs => ?_
  refine wps_factP fun hq => ?_
  refine wps_conseq (H' := pr (RQ R l1 l2 l3 l4 sl cl cs) * seqp sl (rlast R) * seqp cl (rcach R) * own 1 l1 (sl.map vS) * own 1 l2 (cl.map vS) * own 1 l3 (bads R) * own 1 l4 (zv cs) * pc mb [.int .i64 R.n, .int .i64 R.ns, vS l1, vS l2, vS l3, vS l4, .int .i64 R.count, .bool R.off]) (Q' := fun x => pr (x = R.failedB k) * (pr (RQ R l1 l2 l3 l4 sl cl cs) * seqp sl (rlast R) * seqp cl (rcach R) * own 1 l1 (sl.map vS) * own 1 l2 (cl.map vS) * own 1 l3 (bads R) * own 1 l4 (zv cs) * pc mb [.int .i64 R.n, .int .i64 R.ns, vS l1, vS l2, vS l3, vS l4, .int .i64 R.count, .bool R.off])) ?_ (Ent.refl _) (fun x => Ent.starr (ent_ex sl (ent_ex cl (ent_ex cs (Ent.refl _)))))
  refine wps_val (v := decide (0 ≤ k ∧ k < R.n)) ?_ ?_
  · apply val_eq
    · repeat (first
        | (with_reducible refine wps_bindpure ?_)
        | (with_reducible refine wps_assoc ?_)
        | (with_reducible refine wps_nil ?_)
        | (with_reducible refine wps_stepAlloc fun _ => ?_)
        | (with_reducible refine wps_alloc fun _ => ?_)
        | (with_reducible refine wps_newO fun _ => ?_)
        | (refine wps_ld _ (by rfl) ?_)
        | (refine wps_ldG _ _ _ (by rfl) ?_)
        | (refine wps_ldA _ (by rfl) ?_)
        | (refine wps_ldI _ (by rfl) ?_)
        | (refine wps_ldGI _ _ _ (by rfl) ?_)
        | (refine wps_ldAI _ (by rfl) ?_)
        | (refine wps_st (by simp) ?_)
        | (refine wps_stA (by simp) (by simp [Value.oneCell']) ?_)
        | ((with_reducible apply wps_val); apply val_ite; rotate_left; refine fun (_ : ¬ _) => ?_; rotate_right; refine fun (_ : _ = true) => ?_)
        | ((with_reducible apply val_ite); rotate_left; refine fun (_ : ¬ _) => ?_; rotate_right; refine fun (_ : _ = true) => ?_)
        | (with_reducible refine wps_regionH ?_)
        | ((with_reducible apply wps_bindV); apply val_iteL; rotate_left; refine fun (_ : ¬ _) => ?_; rotate_right; refine fun (_ : _ = true) => ?_)
        | ((with_reducible apply val_iteL); rotate_left; refine fun (_ : ¬ _) => ?_; rotate_right; refine fun (_ : _ = true) => ?_)
        | (with_reducible exact wps_pure (ent_val rfl)))
    · by_cases h : 0 ≤ k <;> simp [h]
  · by_cases hk : 0 ≤ k ∧ k < R.n
    · simp only [hk, and_self, decide_true, if_true, Rk.failedB, bindM_assoc]
      repeat (first
        | (with_reducible refine wps_bindpure ?_)
        | (with_reducible refine wps_assoc ?_)
        | (with_reducible refine wps_nil ?_)
        | (with_reducible refine wps_stepAlloc fun _ => ?_)
        | (with_reducible refine wps_alloc fun _ => ?_)
        | (with_reducible refine wps_newO fun _ => ?_)
        | (refine wps_ld _ (by rfl) ?_)
        | (refine wps_ldG _ _ _ (by rfl) ?_)
        | (refine wps_ldA _ (by rfl) ?_)
        | (refine wps_ldI _ (by rfl) ?_)
        | (refine wps_ldGI _ _ _ (by rfl) ?_)
        | (refine wps_ldAI _ (by rfl) ?_)
        | (refine wps_st (by simp) ?_)
        | (refine wps_stA (by simp) (by simp [Value.oneCell']) ?_)
        | ((with_reducible apply wps_val); apply val_ite; rotate_left; refine fun (_ : ¬ _) => ?_; rotate_right; refine fun (_ : _ = true) => ?_)
        | ((with_reducible apply val_ite); rotate_left; refine fun (_ : ¬ _) => ?_; rotate_right; refine fun (_ : _ = true) => ?_)
        | (with_reducible refine wps_regionH ?_)
        | ((with_reducible apply wps_bindV); apply val_iteL; rotate_left; refine fun (_ : ¬ _) => ?_; rotate_right; refine fun (_ : _ = true) => ?_)
        | ((with_reducible apply val_iteL); rotate_left; refine fun (_ : ¬ _) => ?_; rotate_right; refine fun (_ : _ = true) => ?_)
        | (with_reducible exact wps_pure (ent_val rfl)))
      refine wps_rdS k.toNat (R.dk k.toNat).failed (by omega) ?_ ?_
      · rw [bads, List.getElem?_map, List.getElem?_range (by omega)]; rfl
      · repeat (first
          | (with_reducible refine wps_bindpure ?_)
          | (with_reducible refine wps_assoc ?_)
          | (with_reducible refine wps_nil ?_)
          | (with_reducible refine wps_stepAlloc fun _ => ?_)
          | (with_reducible refine wps_alloc fun _ => ?_)
          | (with_reducible refine wps_newO fun _ => ?_)
          | (refine wps_ld _ (by rfl) ?_)
          | (refine wps_ldG _ _ _ (by rfl) ?_)
          | (refine wps_ldA _ (by rfl) ?_)
          | (refine wps_ldI _ (by rfl) ?_)
          | (refine wps_ldGI _ _ _ (by rfl) ?_)
          | (refine wps_ldAI _ (by rfl) ?_)
          | (refine wps_st (by simp) ?_)
          | (refine wps_stA (by simp) (by simp [Value.oneCell']) ?_)
          | ((with_reducible apply wps_val); apply val_ite; rotate_left; refine fun (_ : ¬ _) => ?_; rotate_right; refine fun (_ : _ = true) => ?_)
          | ((with_reducible apply val_ite); rotate_left; refine fun (_ : ¬ _) => ?_; rotate_right; refine fun (_ : _ = true) => ?_)
          | (with_reducible refine wps_regionH ?_)
          | ((with_reducible apply wps_bindV); apply val_iteL; rotate_left; refine fun (_ : ¬ _) => ?_; rotate_right; refine fun (_ : _ = true) => ?_)
          | ((with_reducible apply val_iteL); rotate_left; refine fun (_ : ¬ _) => ?_; rotate_right; refine fun (_ : _ = true) => ?_)
          | (with_reducible exact wps_pure (ent_val rfl)))
    · simp only [hk, decide_false, Rk.failedB, if_false, Bool.false_eq_true]
      repeat (first
        | (with_reducible refine wps_bindpure ?_)
        | (with_reducible refine wps_assoc ?_)
        | (with_reducible refine wps_nil ?_)
        | (with_reducible refine wps_stepAlloc fun _ => ?_)
        | (with_reducible refine wps_alloc fun _ => ?_)
        | (with_reducible refine wps_newO fun _ => ?_)
        | (refine wps_ld _ (by rfl) ?_)
        | (refine wps_ldG _ _ _ (by rfl) ?_)
        | (refine wps_ldA _ (by rfl) ?_)
        | (refine wps_ldI _ (by rfl) ?_)
        | (refine wps_ldGI _ _ _ (by rfl) ?_)
        | (refine wps_ldAI _ (by rfl) ?_)
        | (refine wps_st (by simp) ?_)
        | (refine wps_stA (by simp) (by simp [Value.oneCell']) ?_)
        | ((with_reducible apply wps_val); apply val_ite; rotate_left; refine fun (_ : ¬ _) => ?_; rotate_right; refine fun (_ : _ = true) => ?_)
        | ((with_reducible apply val_ite); rotate_left; refine fun (_ : ¬ _) => ?_; rotate_right; refine fun (_ : _ = true) => ?_)
        | (with_reducible refine wps_regionH ?_)
        | ((with_reducible apply wps_bindV); apply val_iteL; rotate_left; refine fun (_ : ¬ _) => ?_; rotate_right; refine fun (_ : _ = true) => ?_)
        | ((with_reducible apply val_iteL); rotate_left; refine fun (_ : ¬ _) => ?_; rotate_right; refine fun (_ : _ = true) => ?_)
        | (with_reducible exact wps_pure (ent_val rfl)))
end Go.Proofs.Ytldmeimebebllaa
namespace Go.Proofs.Ytldmeimebebllaa
open Go.Mo
set_option linter.unusedVariables false
variable {g : Fr} {cv : CV}
theorem there_true {R : Rk} {k s : Int} (h : thereB R k s = true) : (0 ≤ k ∧ k < R.n) ∧ (0 ≤ s ∧ s < R.ns) := by
  simp only [thereB, decide_eq_true_eq] at h; omega
theorem there_or {R : Rk} {k s : Int} : thereB R k s = true ↔ ¬ (k < 0 ∨ k ≥ R.n ∨ s < 0 ∨ s ≥ R.ns) := by
  simp only [thereB, decide_eq_true_eq]; omega
theorem RQ.at {R : Rk} {l1 l2 l3 l4 : Slc} {sl cl : List Slc} {cs : List Int} (h : RQ R l1 l2 l3 l4 sl cl cs) {k s : Int} (ht : thereB R k s = true) :
    ∃ i : Nat, i < R.n * R.ns ∧ i = k.toNat * R.ns + s.toNat ∧ w64 (w64 (k * (R.ns : Int)) + s) = (i : Int) ∧ rlast R i = (R.dk k.toNat).lasts s.toNat ∧ rcach R i = ((R.dk k.toNat).cached s).getD [] ∧ k.toNat < R.n ∧ s.toNat < R.ns := by
  obtain ⟨hk, hs⟩ := there_true ht
  have hd := flat_div (k := k.toNat) (s := s.toNat) (ns := R.ns) (by omega)
  refine ⟨k.toNat * R.ns + s.toNat, flat_lt (by omega) (by omega), rfl, flat_w hk hs h.n17 h.ns4, ?_, ?_, by omega, by omega⟩
  · rw [rlast, hd.1, hd.2]
  · rw [rcach, hd.1, hd.2, show ((s.toNat : Nat) : Int) = s by omega]
theorem ref02_Lasting_spec (mb : Nat) (R : Rk) (l1 l2 l3 l4 : Slc) (k s : Int) :
    wps g (refQ mb R l1 l2 l3 l4) (ref02_Rack_Lasting (ptr mb) k s) (fun x => pr (x.2 = R.lErr k s) * refQ mb R l1 l2 l3 l4 * own 1 x.1 (bv (R.lst k s))) := by
  unfold ref02_Rack_Lasting
  refine wps_val (ref02_there_val mb R l1 l2 l3 l4 k s) ?_
  by_cases ht : thereB R k s = true
  · have hn := there_or.1 ht
    have he : R.lErr k s = 0 := by rw [Rk.lErr, if_neg hn]
    rw [ht]
    refine wps_ite (fun h => absurd h (by decide)) (fun _ => ?_)
    simp only [Rk.lst, he, if_true]
    unfold refQ
    refine wps_exP fun sl => wps_exP fun cl => wps_exP fun cs => ?_
    unfold refX4
    simp only [← star_assoc]
    refine wps_factP fun hq => ?_
    obtain ⟨i, hi, _, hw, hl, _, hk, hs⟩ := hq.at ht
    rw [← hl]
    have hlen : (rlast R i).length = 64 := by rw [hl]; exact (hq.ok _ hk).1 _ hs
    have hil : i < sl.length := by rw [hq.hsl]; exact hi
    refine wps_regionH ?_
    repeat (first
      | (with_reducible refine wps_bindpure ?_)
      | (with_reducible refine wps_assoc ?_)
      | (with_reducible refine wps_nil ?_)
      | (with_reducible refine wps_stepAlloc fun _ => ?_)
      | (with_reducible refine wps_alloc fun _ => ?_)
      | (with_reducible refine wps_newO fun _ => ?_)
      | (refine wps_ld _ (by rfl) ?_)
      | (refine wps_ldG _ _ _ (by rfl) ?_)
      | (refine wps_ldA _ (by rfl) ?_)
      | (refine wps_ldI _ (by rfl) ?_)
      | (refine wps_ldGI _ _ _ (by rfl) ?_)
      | (refine wps_ldAI _ (by rfl) ?_)
      | (refine wps_st (by simp) ?_)
      | (refine wps_stA (by simp) (by simp [Value.oneCell']) ?_)
      | ((with_reducible apply wps_val); apply val_ite; rotate_left; refine fun (_ : ¬ _) => ?_; rotate_right; refine fun (_ : _ = true) => ?_)
      | ((with_reducible apply val_ite); rotate_left; refine fun (_ : ¬ _) => ?_; rotate_right; refine fun (_ : _ = true) => ?_)
      | (with_reducible refine wps_regionH ?_)
      | ((with_reducible apply wps_bindV); apply val_iteL; rotate_left; refine fun (_ : ¬ _) => ?_; rotate_right; refine fun (_ : _ = true) => ?_)
      | ((with_reducible apply val_iteL); rotate_left; refine fun (_ : ¬ _) => ?_; rotate_right; refine fun (_ : _ = true) => ?_)
      | (with_reducible exact wps_pure (ent_val rfl)))
    rw [hw]
    refine wps_rdI i sl[i] (Ent.trans (ent_pick1 (A := own 1 l1 (sl.map vS))) (own_rsl _ _ _)) (Ent.refl _) rfl (by rw [List.getElem?_map, List.getElem?_eq_getElem hil]; rfl) ?_
    refine wps_step1 (ref00_CopyBytes_spec (b := rlast R i) (Ent.trans (ent_drop (B := seqp sl (rlast R))) (seqp_get (List.getElem?_eq_getElem hil))) (by omega)) fun s' => wps_pure ?_
    refine ent_pick ?_
    refine ent_exr sl ?_
    refine ent_exr cl ?_
    refine ent_exr cs ?_
    simp only [← star_assoc]
    repeat (first
      | (with_reducible exact ent_drop)
      | (with_reducible refine ent_pick ?_)
      | (refine ent_pickC (by rfl) ?_)
      | (refine ent_pickS (by rfl) ?_)
      | (refine ent_pickM (by rfl) ?_)
      | (refine ent_prx ?_ ?_; rotate_left)
      | (refine ent_prq ?_))
    all_goals first | exact hq | rfl | trivial
  · have hn : (k < 0 ∨ k ≥ R.n ∨ s < 0 ∨ s ≥ R.ns) := Classical.byContradiction fun h => ht (there_or.2 h)
    have he : R.lErr k s = 11 := by rw [Rk.lErr, if_pos hn]
    rw [show thereB R k s = false by simpa using ht]
    refine wps_ite (fun _ => wps_pure ?_) (fun h => absurd rfl h)
    simp only [Rk.lst, he]
    exact ent_own0 (ent_prr (by simp) (Ent.refl _))
theorem ref02_Read_spec (mb : Nat) (R : Rk) (l1 l2 l3 l4 : Slc) (k s : Int) :
    wps g (refQ mb R l1 l2 l3 l4) (ref02_Rack_Read (ptr mb) k s) (fun x => pr (x.2 = R.rdErr k s) * refQ mb R l1 l2 l3 l4 * own 1 x.1 (bv (R.rd k s))) := by
  unfold ref02_Rack_Read
  have hoff : ∀ {α : Type} {K : Bool → M α} {Q : α → HP}, wps g (refQ mb R l1 l2 l3 l4) (K R.off) Q → wps g (refQ mb R l1 l2 l3 l4) (bindM (ld Value.bool ⟨mb, 7, none⟩) K) Q := by
    intro α K Q h
    refine wps_val (v := R.off) ?_ h
    show wps g _ (bindM (ld Value.bool ⟨mb, 7, none⟩) pureM) _
    unfold refQ refX4
    refine wps_ex fun sl => wps_ex fun cl => wps_ex fun cs => ?_
    repeat (first
      | (with_reducible refine wps_bindpure ?_)
      | (with_reducible refine wps_assoc ?_)
      | (with_reducible refine wps_nil ?_)
      | (with_reducible refine wps_stepAlloc fun _ => ?_)
      | (with_reducible refine wps_alloc fun _ => ?_)
      | (with_reducible refine wps_newO fun _ => ?_)
      | (refine wps_ld _ (by rfl) ?_)
      | (refine wps_ldG _ _ _ (by rfl) ?_)
      | (refine wps_ldA _ (by rfl) ?_)
      | (refine wps_ldI _ (by rfl) ?_)
      | (refine wps_ldGI _ _ _ (by rfl) ?_)
      | (refine wps_ldAI _ (by rfl) ?_)
      | (refine wps_st (by simp) ?_)
      | (refine wps_stA (by simp) (by simp [Value.oneCell']) ?_)
      | ((with_reducible apply wps_val); apply val_ite; rotate_left; refine fun (_ : ¬ _) => ?_; rotate_right; refine fun (_ : _ = true) => ?_)
      | ((with_reducible apply val_ite); rotate_left; refine fun (_ : ¬ _) => ?_; rotate_right; refine fun (_ : _ = true) => ?_)
      | (with_reducible refine wps_regionH ?_)
      | ((with_reducible apply wps_bindV); apply val_iteL; rotate_left; refine fun (_ : ¬ _) => ?_; rotate_right; refine fun (_ : _ = true) => ?_)
      | ((with_reducible apply val_iteL); rotate_left; refine fun (_ : ¬ _) => ?_; rotate_right; refine fun (_ : _ = true) => ?_)
      | (with_reducible exact wps_pure (ent_val rfl)))
    exact wps_pure (ent_prr rfl (ent_ex sl (ent_ex cl (ent_ex cs (Ent.refl _)))))
  repeat (first
    | (with_reducible refine wps_bindpure ?_)
    | (with_reducible refine wps_assoc ?_)
    | (with_reducible refine wps_nil ?_)
    | (with_reducible refine wps_stepAlloc fun _ => ?_)
    | (with_reducible refine wps_alloc fun _ => ?_)
    | (with_reducible refine wps_newO fun _ => ?_)
    | (refine wps_ld _ (by rfl) ?_)
    | (refine wps_ldG _ _ _ (by rfl) ?_)
    | (refine wps_ldA _ (by rfl) ?_)
    | (refine wps_ldI _ (by rfl) ?_)
    | (refine wps_ldGI _ _ _ (by rfl) ?_)
    | (refine wps_ldAI _ (by rfl) ?_)
    | (refine wps_st (by simp) ?_)
    | (refine wps_stA (by simp) (by simp [Value.oneCell']) ?_)
    | ((with_reducible apply wps_val); apply val_ite; rotate_left; refine fun (_ : ¬ _) => ?_; rotate_right; refine fun (_ : _ = true) => ?_)
    | ((with_reducible apply val_ite); rotate_left; refine fun (_ : ¬ _) => ?_; rotate_right; refine fun (_ : _ = true) => ?_)
    | (with_reducible refine wps_regionH ?_)
    | ((with_reducible apply wps_bindV); apply val_iteL; rotate_left; refine fun (_ : ¬ _) => ?_; rotate_right; refine fun (_ : _ = true) => ?_)
    | ((with_reducible apply val_iteL); rotate_left; refine fun (_ : ¬ _) => ?_; rotate_right; refine fun (_ : _ = true) => ?_)
    | (with_reducible exact wps_pure (ent_val rfl)))
  refine hoff ?_
  by_cases ho : R.off = true
  · have he : R.rdErr k s = 12 := by simp [Rk.rdErr, ho]
    rw [if_pos ho]
    refine wps_pure ?_
    simp only [Rk.rd, he]
    exact ent_own0 (ent_prr (by simp) (Ent.refl _))
  rw [if_neg ho]
  refine wps_val (ref02_there_val mb R l1 l2 l3 l4 k s) ?_
  by_cases ht : thereB R k s = true
  · have hn := there_or.1 ht
    rw [ht]
    refine wps_ite (fun h => absurd h (by decide)) (fun _ => ?_)
    unfold refQ
    refine wps_exP fun sl => wps_exP fun cl => wps_exP fun cs => ?_
    unfold refX4
    simp only [← star_assoc]
    refine wps_factP fun hq => ?_
    obtain ⟨i, hi, _, hw, hl, hc, hk, hs⟩ := hq.at ht
    obtain ⟨hk2, hs2⟩ := there_true ht
    repeat (first
      | (with_reducible refine wps_bindpure ?_)
      | (with_reducible refine wps_assoc ?_)
      | (with_reducible refine wps_nil ?_)
      | (with_reducible refine wps_stepAlloc fun _ => ?_)
      | (with_reducible refine wps_alloc fun _ => ?_)
      | (with_reducible refine wps_newO fun _ => ?_)
      | (refine wps_ld _ (by rfl) ?_)
      | (refine wps_ldG _ _ _ (by rfl) ?_)
      | (refine wps_ldA _ (by rfl) ?_)
      | (refine wps_ldI _ (by rfl) ?_)
      | (refine wps_ldGI _ _ _ (by rfl) ?_)
      | (refine wps_ldAI _ (by rfl) ?_)
      | (refine wps_st (by simp) ?_)
      | (refine wps_stA (by simp) (by simp [Value.oneCell']) ?_)
      | ((with_reducible apply wps_val); apply val_ite; rotate_left; refine fun (_ : ¬ _) => ?_; rotate_right; refine fun (_ : _ = true) => ?_)
      | ((with_reducible apply val_ite); rotate_left; refine fun (_ : ¬ _) => ?_; rotate_right; refine fun (_ : _ = true) => ?_)
      | (with_reducible refine wps_regionH ?_)
      | ((with_reducible apply wps_bindV); apply val_iteL; rotate_left; refine fun (_ : ¬ _) => ?_; rotate_right; refine fun (_ : _ = true) => ?_)
      | ((with_reducible apply val_iteL); rotate_left; refine fun (_ : ¬ _) => ?_; rotate_right; refine fun (_ : _ = true) => ?_)
      | (with_reducible exact wps_pure (ent_val rfl)))
    refine wps_rdS k.toNat (R.dk k.toNat).failed (by omega) (by rw [bads, List.getElem?_map, List.getElem?_range hk]; rfl) ?_
    refine wps_ite (fun hf => wps_pure ?_) (fun hf => ?_)
    · have he : R.rdErr k s = 13 := by simp only [Rk.rdErr, if_neg ho, if_neg hn, if_pos hf]
      simp only [Rk.rd, he]
      refine ent_own0 (ent_exr sl (ent_exr cl (ent_exr cs ?_)))
      simp only [← star_assoc]
      repeat (first
        | (with_reducible exact ent_drop)
        | (with_reducible refine ent_pick ?_)
        | (refine ent_pickC (by rfl) ?_)
        | (refine ent_pickS (by rfl) ?_)
        | (refine ent_pickM (by rfl) ?_)
        | (refine ent_prx ?_ ?_; rotate_left)
        | (refine ent_prq ?_))
      all_goals first | exact hq | rfl | trivial
    · have he : R.rdErr k s = 0 := by simp only [Rk.rdErr, if_neg ho, if_neg hn, if_neg hf]
      simp only [Rk.rd, he, if_true]
      repeat (first
        | (with_reducible refine wps_bindpure ?_)
        | (with_reducible refine wps_assoc ?_)
        | (with_reducible refine wps_nil ?_)
        | (with_reducible refine wps_stepAlloc fun _ => ?_)
        | (with_reducible refine wps_alloc fun _ => ?_)
        | (with_reducible refine wps_newO fun _ => ?_)
        | (refine wps_ld _ (by rfl) ?_)
        | (refine wps_ldG _ _ _ (by rfl) ?_)
        | (refine wps_ldA _ (by rfl) ?_)
        | (refine wps_ldI _ (by rfl) ?_)
        | (refine wps_ldGI _ _ _ (by rfl) ?_)
        | (refine wps_ldAI _ (by rfl) ?_)
        | (refine wps_st (by simp) ?_)
        | (refine wps_stA (by simp) (by simp [Value.oneCell']) ?_)
        | ((with_reducible apply wps_val); apply val_ite; rotate_left; refine fun (_ : ¬ _) => ?_; rotate_right; refine fun (_ : _ = true) => ?_)
        | ((with_reducible apply val_ite); rotate_left; refine fun (_ : ¬ _) => ?_; rotate_right; refine fun (_ : _ = true) => ?_)
        | (with_reducible refine wps_regionH ?_)
        | ((with_reducible apply wps_bindV); apply val_iteL; rotate_left; refine fun (_ : ¬ _) => ?_; rotate_right; refine fun (_ : _ = true) => ?_)
        | ((with_reducible apply val_iteL); rotate_left; refine fun (_ : ¬ _) => ?_; rotate_right; refine fun (_ : _ = true) => ?_)
        | (with_reducible exact wps_pure (ent_val rfl)))
      rw [hw]
      have hil : i < sl.length := by rw [hq.hsl]; exact hi
      have hic : i < cl.length := by rw [hq.hcl]; exact hi
      have close : ∀ s', Ent (emp * pr (RQ R l1 l2 l3 l4 sl cl cs) * seqp sl (rlast R) * seqp cl (rcach R) * own 1 l1 (sl.map vS) * own 1 l2 (cl.map vS) * own 1 l3 (bads R) * own 1 l4 (zv cs) * pc mb [.int .i64 R.n, .int .i64 R.ns, vS l1, vS l2, vS l3, vS l4, .int .i64 R.count, .bool R.off] * own 1 s' (bv ((R.dk k.toNat).sec s)))
          (pr (((s', 0) : Slc × Int).2 = 0) * (ex fun sl : List Slc => ex fun cl : List Slc => ex fun cs : List Int => pr (RQ R l1 l2 l3 l4 sl cl cs) * seqp sl (rlast R) * seqp cl (rcach R) * own 1 l1 (sl.map vS) * own 1 l2 (cl.map vS) * own 1 l3 (bads R) * own 1 l4 (zv cs) * pc mb [.int .i64 R.n, .int .i64 R.ns, vS l1, vS l2, vS l3, vS l4, .int .i64 R.count, .bool R.off]) * own 1 s' (bv ((R.dk k.toNat).sec s))) := by
        intro s'
        refine ent_pick ?_
        refine ent_exr sl ?_
        refine ent_exr cl ?_
        refine ent_exr cs ?_
        simp only [← star_assoc]
        repeat (first
          | (with_reducible exact ent_drop)
          | (with_reducible refine ent_pick ?_)
          | (refine ent_pickC (by rfl) ?_)
          | (refine ent_pickS (by rfl) ?_)
          | (refine ent_pickM (by rfl) ?_)
          | (refine ent_prx ?_ ?_; rotate_left)
          | (refine ent_prq ?_))
        all_goals first | exact hq | rfl | trivial
      refine wps_rdS i cl[i] rfl (by rw [List.getElem?_map, List.getElem?_eq_getElem hic]; rfl) ?_
      have hcb : Ent (seqp cl (rcach R)) (byt cl[i] (rcach R i)) := seqp_get (List.getElem?_eq_getElem hic)
      refine wps_fact (len_of (Ent.trans (ent_drop (B := seqp cl (rcach R))) hcb)) fun hcl => ?_
      cases hcs : (R.dk k.toNat).cached s with
      | some b =>
        have hb : rcach R i = b := by rw [hc, hcs]; rfl
        have hbl := ((hq.ok _ hk).2 s b hcs).1
        have hsec : (R.dk k.toNat).sec s = rcach R i := by rw [hb]; simp [Dk.sec, hcs]
        refine wps_ite (fun _ => ?_) (fun h => ?_)
        · repeat (first
            | (with_reducible refine wps_bindpure ?_)
            | (with_reducible refine wps_assoc ?_)
            | (with_reducible refine wps_nil ?_)
            | (with_reducible refine wps_stepAlloc fun _ => ?_)
            | (with_reducible refine wps_alloc fun _ => ?_)
            | (with_reducible refine wps_newO fun _ => ?_)
            | (refine wps_ld _ (by rfl) ?_)
            | (refine wps_ldG _ _ _ (by rfl) ?_)
            | (refine wps_ldA _ (by rfl) ?_)
            | (refine wps_ldI _ (by rfl) ?_)
            | (refine wps_ldGI _ _ _ (by rfl) ?_)
            | (refine wps_ldAI _ (by rfl) ?_)
            | (refine wps_st (by simp) ?_)
            | (refine wps_stA (by simp) (by simp [Value.oneCell']) ?_)
            | ((with_reducible apply wps_val); apply val_ite; rotate_left; refine fun (_ : ¬ _) => ?_; rotate_right; refine fun (_ : _ = true) => ?_)
            | ((with_reducible apply val_ite); rotate_left; refine fun (_ : ¬ _) => ?_; rotate_right; refine fun (_ : _ = true) => ?_)
            | (with_reducible refine wps_regionH ?_)
            | ((with_reducible apply wps_bindV); apply val_iteL; rotate_left; refine fun (_ : ¬ _) => ?_; rotate_right; refine fun (_ : _ = true) => ?_)
            | ((with_reducible apply val_iteL); rotate_left; refine fun (_ : ¬ _) => ?_; rotate_right; refine fun (_ : _ = true) => ?_)
            | (with_reducible exact wps_pure (ent_val rfl)))
          refine wps_rdS i cl[i] rfl (by rw [List.getElem?_map, List.getElem?_eq_getElem hic]; rfl) ?_
          refine wps_bind1 (ref00_CopyBytes_spec (b := (R.dk k.toNat).sec s) (Ent.trans (ent_drop (B := seqp cl (rcach R))) (by rw [hsec]; exact hcb)) (by rw [hsec, hb]; omega)) fun s' => wps_pure ?_
          exact Ent.trans (Ent.of_eq (by simp only [emp_star])) (close s')
        · exfalso
          rw [hb] at hcl
          simp only [decide_eq_true_eq] at h; omega
      | none =>
        have hb : rcach R i = [] := by rw [hc, hcs]; rfl
        have hsec : (R.dk k.toNat).sec s = rlast R i := by rw [hl]; simp [Dk.sec, hcs]
        have hlen : (rlast R i).length = 64 := by rw [hl]; exact (hq.ok _ hk).1 _ hs
        refine wps_ite (fun h => ?_) (fun h => ?_)
        · exfalso
          rw [hb] at hcl
          simp only [decide_eq_true_eq, List.length_nil] at h hcl; omega
        · repeat (first
            | (with_reducible refine wps_bindpure ?_)
            | (with_reducible refine wps_assoc ?_)
            | (with_reducible refine wps_nil ?_)
            | (with_reducible refine wps_stepAlloc fun _ => ?_)
            | (with_reducible refine wps_alloc fun _ => ?_)
            | (with_reducible refine wps_newO fun _ => ?_)
            | (refine wps_ld _ (by rfl) ?_)
            | (refine wps_ldG _ _ _ (by rfl) ?_)
            | (refine wps_ldA _ (by rfl) ?_)
            | (refine wps_ldI _ (by rfl) ?_)
            | (refine wps_ldGI _ _ _ (by rfl) ?_)
            | (refine wps_ldAI _ (by rfl) ?_)
            | (refine wps_st (by simp) ?_)
            | (refine wps_stA (by simp) (by simp [Value.oneCell']) ?_)
            | ((with_reducible apply wps_val); apply val_ite; rotate_left; refine fun (_ : ¬ _) => ?_; rotate_right; refine fun (_ : _ = true) => ?_)
            | ((with_reducible apply val_ite); rotate_left; refine fun (_ : ¬ _) => ?_; rotate_right; refine fun (_ : _ = true) => ?_)
            | (with_reducible refine wps_regionH ?_)
            | ((with_reducible apply wps_bindV); apply val_iteL; rotate_left; refine fun (_ : ¬ _) => ?_; rotate_right; refine fun (_ : _ = true) => ?_)
            | ((with_reducible apply val_iteL); rotate_left; refine fun (_ : ¬ _) => ?_; rotate_right; refine fun (_ : _ = true) => ?_)
            | (with_reducible exact wps_pure (ent_val rfl)))
          refine wps_rdS i sl[i] rfl (by rw [List.getElem?_map, List.getElem?_eq_getElem hil]; rfl) ?_
          refine wps_bind1 (ref00_CopyBytes_spec (b := (R.dk k.toNat).sec s) (Ent.trans (ent_drop (B := seqp sl (rlast R))) (by rw [hsec]; exact seqp_get (List.getElem?_eq_getElem hil))) (by rw [hsec, hlen]; omega)) fun s' => wps_pure ?_
          exact Ent.trans (Ent.of_eq (by simp only [emp_star])) (close s')
  · have hn : (k < 0 ∨ k ≥ R.n ∨ s < 0 ∨ s ≥ R.ns) := Classical.byContradiction fun h => ht (there_or.2 h)
    have he : R.rdErr k s = 11 := by simp only [Rk.rdErr, if_neg ho, if_pos hn]
    rw [show thereB R k s = false by simpa using ht]
    refine wps_ite (fun _ => wps_pure ?_) (fun h => absurd rfl h)
    simp only [Rk.rd, he]
    exact ent_own0 (ent_prr (by simp) (Ent.refl _))
end Go.Proofs.Ytldmeimebebllaa
namespace Go.Proofs.Ytldmeimebebllaa
open Go.Mo
set_option linter.unusedVariables false
variable {g : Fr} {cv : CV}
theorem maxI_bnd {c : Int} (h : c < 9223372036854775808) : -1 ≤ maxI c (-1) ∧ maxI c (-1) < 9223372036854775808 := by
  rw [maxI]; split <;> omega
theorem cnt_tick {c : Int} (h : -1 ≤ c ∧ c < 9223372036854775808) : -1 ≤ maxI (w64 (c - 1)) (-1) ∧ maxI (w64 (c - 1)) (-1) < 9223372036854775808 := by
  rw [w64_id (by omega) (by omega), maxI]; split <;> omega
theorem Rk.cok.arm {R : Rk} (h : R.cok) {c : Int} (hc : c < 9223372036854775808) : (R.arm c).cok := ⟨maxI_bnd hc, h.dks⟩
theorem Rk.cok.setD {R : Rk} (h : R.cok) {k : Nat} {D : Dk} (hD : -1 ≤ D.count ∧ D.count < 9223372036854775808) : (R.setD k D).cok := ⟨h.pow, fun j => by
  simp only [Rk.setD]; split
  · exact hD
  · exact h.dks j⟩
theorem Rk.cok.doom {R : Rk} (h : R.cok) {k c : Int} (hc : c < 9223372036854775808) : (R.doom k c).cok := by
  rw [Rk.doom]; split
  · exact h
  · exact h.setD (maxI_bnd hc)
theorem Rk.cok.ticked {R : Rk} (h : R.cok) : R.ticked.cok := by
  rw [Rk.ticked]; split
  · exact ⟨h.pow, h.dks⟩
  · exact ⟨cnt_tick h.pow, fun j => cnt_tick (h.dks j)⟩
theorem ref02_Arm_spec (mb : Nat) (R : Rk) (l1 l2 l3 l4 : Slc) (c : Int) (hc : c < 9223372036854775808) : wps g (refQ mb R l1 l2 l3 l4) (ref02_Rack_Arm (ptr mb) c) (fun _ => refQ mb (R.arm c) l1 l2 l3 l4) := by
  unfold ref02_Rack_Arm refQ refX4
  refine wps_ex fun sl => wps_ex fun cl => wps_ex fun cs => ?_
  refine wps_prP fun hq => ?_
  repeat (first
    | (with_reducible refine wps_bindpure ?_)
    | (with_reducible refine wps_assoc ?_)
    | (with_reducible refine wps_nil ?_)
    | (with_reducible refine wps_stepAlloc fun _ => ?_)
    | (with_reducible refine wps_alloc fun _ => ?_)
    | (with_reducible refine wps_newO fun _ => ?_)
    | (refine wps_ld _ (by rfl) ?_)
    | (refine wps_ldG _ _ _ (by rfl) ?_)
    | (refine wps_ldA _ (by rfl) ?_)
    | (refine wps_ldI _ (by rfl) ?_)
    | (refine wps_ldGI _ _ _ (by rfl) ?_)
    | (refine wps_ldAI _ (by rfl) ?_)
    | (refine wps_st (by simp) ?_)
    | (refine wps_stA (by simp) (by simp [Value.oneCell']) ?_)
    | ((with_reducible apply wps_val); apply val_ite; rotate_left; refine fun (_ : ¬ _) => ?_; rotate_right; refine fun (_ : _ = true) => ?_)
    | ((with_reducible apply val_ite); rotate_left; refine fun (_ : ¬ _) => ?_; rotate_right; refine fun (_ : _ = true) => ?_)
    | (with_reducible refine wps_regionH ?_)
    | ((with_reducible apply wps_bindV); apply val_iteL; rotate_left; refine fun (_ : ¬ _) => ?_; rotate_right; refine fun (_ : _ = true) => ?_)
    | ((with_reducible apply val_iteL); rotate_left; refine fun (_ : ¬ _) => ?_; rotate_right; refine fun (_ : _ = true) => ?_)
    | (with_reducible exact wps_pure (ent_val rfl)))
  refine wps_pure ?_
  refine ent_ex sl (ent_ex cl (ent_ex cs ?_))
  refine ent_pickC (by rfl) ?_
  have e1 : rlast (R.arm c) = rlast R := rfl
  have e2 : rcach (R.arm c) = rcach R := rfl
  have e3 : bads (R.arm c) = bads R := rfl
  rw [e1, e2, e3]
  repeat (first
    | (with_reducible exact ent_drop)
    | (with_reducible refine ent_pick ?_)
    | (refine ent_pickC (by rfl) ?_)
    | (refine ent_pickS (by rfl) ?_)
    | (refine ent_pickM (by rfl) ?_)
    | (refine ent_prx ?_ ?_; rotate_left)
    | (refine ent_prq ?_))
  exact ⟨hq.hsl, hq.hcl, hq.hcs, hq.n17, hq.ns4, hq.hl1, hq.hl2, hq.hl3, hq.hl4, hq.ok, hq.cnt, hq.cok.arm hc⟩
theorem ref02_Doom_spec (mb : Nat) (R : Rk) (l1 l2 l3 l4 : Slc) (k c : Int) (hc : c < 9223372036854775808) :
    wps g (refQ mb R l1 l2 l3 l4) (ref02_Rack_Doom (ptr mb) k c) (fun e => pr (e = if k < 0 ∨ k ≥ R.n then 11 else 0) * refQ mb (R.doom k c) l1 l2 l3 l4) := by
  unfold ref02_Rack_Doom refQ refX4
  refine wps_ex fun sl => wps_ex fun cl => wps_ex fun cs => ?_
  refine wps_factP fun hq => ?_
  refine wps_val (v := decide (k < 0 ∨ k ≥ R.n)) ?_ ?_
  · apply val_eq
    · repeat (first
        | (with_reducible refine wps_bindpure ?_)
        | (with_reducible refine wps_assoc ?_)
        | (with_reducible refine wps_nil ?_)
        | (with_reducible refine wps_stepAlloc fun _ => ?_)
        | (with_reducible refine wps_alloc fun _ => ?_)
        | (with_reducible refine wps_newO fun _ => ?_)
        | (refine wps_ld _ (by rfl) ?_)
        | (refine wps_ldG _ _ _ (by rfl) ?_)
        | (refine wps_ldA _ (by rfl) ?_)
        | (refine wps_ldI _ (by rfl) ?_)
        | (refine wps_ldGI _ _ _ (by rfl) ?_)
        | (refine wps_ldAI _ (by rfl) ?_)
        | (refine wps_st (by simp) ?_)
        | (refine wps_stA (by simp) (by simp [Value.oneCell']) ?_)
        | ((with_reducible apply wps_val); apply val_ite; rotate_left; refine fun (_ : ¬ _) => ?_; rotate_right; refine fun (_ : _ = true) => ?_)
        | ((with_reducible apply val_ite); rotate_left; refine fun (_ : ¬ _) => ?_; rotate_right; refine fun (_ : _ = true) => ?_)
        | (with_reducible refine wps_regionH ?_)
        | ((with_reducible apply wps_bindV); apply val_iteL; rotate_left; refine fun (_ : ¬ _) => ?_; rotate_right; refine fun (_ : _ = true) => ?_)
        | ((with_reducible apply val_iteL); rotate_left; refine fun (_ : ¬ _) => ?_; rotate_right; refine fun (_ : _ = true) => ?_)
        | (with_reducible exact wps_pure (ent_val rfl)))
    · by_cases h : k < 0 <;> by_cases h' : k ≥ (R.n : Int) <;> simp [h, h']
  by_cases hk : k < 0 ∨ k ≥ R.n
  · rw [if_pos hk, Rk.doom, if_pos hk]
    refine wps_ite (fun _ => wps_pure ?_) (fun h => absurd (by simpa using hk) h)
    exact ent_prr rfl (ent_ex sl (ent_ex cl (ent_ex cs (Ent.refl _))))
  · rw [if_neg hk, Rk.doom, if_neg hk]
    refine wps_ite (fun h => absurd (by simpa using h) hk) (fun _ => ?_)
    have hlt : k.toNat < R.n := by omega
    repeat (first
      | (with_reducible refine wps_bindpure ?_)
      | (with_reducible refine wps_assoc ?_)
      | (with_reducible refine wps_nil ?_)
      | (with_reducible refine wps_stepAlloc fun _ => ?_)
      | (with_reducible refine wps_alloc fun _ => ?_)
      | (with_reducible refine wps_newO fun _ => ?_)
      | (refine wps_ld _ (by rfl) ?_)
      | (refine wps_ldG _ _ _ (by rfl) ?_)
      | (refine wps_ldA _ (by rfl) ?_)
      | (refine wps_ldI _ (by rfl) ?_)
      | (refine wps_ldGI _ _ _ (by rfl) ?_)
      | (refine wps_ldAI _ (by rfl) ?_)
      | (refine wps_st (by simp) ?_)
      | (refine wps_stA (by simp) (by simp [Value.oneCell']) ?_)
      | ((with_reducible apply wps_val); apply val_ite; rotate_left; refine fun (_ : ¬ _) => ?_; rotate_right; refine fun (_ : _ = true) => ?_)
      | ((with_reducible apply val_ite); rotate_left; refine fun (_ : ¬ _) => ?_; rotate_right; refine fun (_ : _ = true) => ?_)
      | (with_reducible refine wps_regionH ?_)
      | ((with_reducible apply wps_bindV); apply val_iteL; rotate_left; refine fun (_ : ¬ _) => ?_; rotate_right; refine fun (_ : _ = true) => ?_)
      | ((with_reducible apply val_iteL); rotate_left; refine fun (_ : ¬ _) => ?_; rotate_right; refine fun (_ : _ = true) => ?_)
      | (with_reducible exact wps_pure (ent_val rfl)))
    refine wps_wrS k.toNat (by omega) (by rw [hq.hl4]; exact hlt) (wps_pure ?_)
    refine ent_prr rfl (ent_ex sl (ent_ex cl (ent_ex (cs.set k.toNat (maxI c (-1))) ?_)))
    refine ent_pickC (by rfl) (ent_pickS (cs' := zv (cs.set k.toNat (maxI c (-1)))) (by simp [zv, List.map_set]) ?_)
    have hdk : ∀ j, ((R.setD k.toNat { R.dk k.toNat with count := maxI c (-1) }).dk j).lasts = (R.dk j).lasts ∧ ((R.setD k.toNat { R.dk k.toNat with count := maxI c (-1) }).dk j).cached = (R.dk j).cached ∧ ((R.setD k.toNat { R.dk k.toNat with count := maxI c (-1) }).dk j).failed = (R.dk j).failed := by
      intro j
      simp only [Rk.setD]
      by_cases hj : j = k.toNat
      · subst hj; simp
      · simp [hj]
    have e1 : rlast (R.setD k.toNat { R.dk k.toNat with count := maxI c (-1) }) = rlast R := by
      funext i; simp only [rlast, (hdk _).1]; rfl
    have e2 : rcach (R.setD k.toNat { R.dk k.toNat with count := maxI c (-1) }) = rcach R := by
      funext i; simp only [rcach, (hdk _).2.1]; rfl
    have e3 : bads (R.setD k.toNat { R.dk k.toNat with count := maxI c (-1) }) = bads R := by
      simp only [bads, (hdk _).2.2]; rfl
    rw [e1, e2, e3]
    repeat (first
      | (with_reducible exact ent_drop)
      | (with_reducible refine ent_pick ?_)
      | (refine ent_pickC (by rfl) ?_)
      | (refine ent_pickS (by rfl) ?_)
      | (refine ent_pickM (by rfl) ?_)
      | (refine ent_prx ?_ ?_; rotate_left)
      | (refine ent_prq ?_))
    all_goals first | trivial | skip
    refine ⟨hq.hsl, hq.hcl, by rw [List.length_set]; exact hq.hcs, hq.n17, hq.ns4, hq.hl1, hq.hl2, hq.hl3, hq.hl4, fun j hj => ?_, fun j hj hf => ?_, hq.cok.setD (maxI_bnd hc)⟩
    · have := hq.ok j hj
      exact ⟨fun q hq' => by rw [(hdk j).1]; exact this.1 q hq', fun q b hb => by rw [(hdk j).2.1] at hb; exact this.2 q b hb⟩
    · by_cases hjk : j = k.toNat
      · subst hjk
        rw [List.getElem?_set_self (by rw [hq.hcs]; exact hlt)]
        simp [Rk.setD]
      · rw [List.getElem?_set_ne (fun e => hjk e.symm)]
        rw [(hdk j).2.2] at hf
        rw [hq.cnt j hj hf]
        simp [Rk.setD, hjk]
def badsT (R : Rk) (i : Nat) : List Value := (List.range R.n).map fun j => .bool (R.part i j).failed
theorem bads_set {n i : Nat} (hi : i < n) {f f' : Nat → Bool} {v : Bool} (hv : f' i = v) (h : ∀ j, j < n → j ≠ i → f' j = f j) : ((List.range n).map fun j => Value.bool (f j)).set i (.bool v) = (List.range n).map fun j => Value.bool (f' j) := by
  apply List.ext_getElem?
  intro q
  rw [List.getElem?_set]
  simp only [List.getElem?_map, List.length_map, List.length_range]
  by_cases hq : q < n
  · rw [List.getElem?_range hq]
    by_cases e : i = q
    · subst e; simp [hv, hq]
    · have e' : q ≠ i := fun h => e h.symm
      simp [e, h q hq e']
  · rw [List.getElem?_eq_none (by simpa using hq)]
    have : ¬ i = q := by omega
    simp [this]
theorem bads_same {n : Nat} {f f' : Nat → Bool} (h : ∀ j, j < n → f' j = f j) : ((List.range n).map fun j => Value.bool (f j)) = (List.range n).map fun j => Value.bool (f' j) := by
  apply List.map_congr_left
  intro j hj
  rw [h j (List.mem_range.1 hj)]
theorem ref02_call_spec (mb : Nat) (R : Rk) (l1 l2 l3 l4 : Slc) : wps g (refQ mb R l1 l2 l3 l4) (ref02_Rack_call (ptr mb)) (fun e => pr (e = if R.count = 0 then 12 else 0) * refQ mb R.ticked l1 l2 l3 l4) := by
  unfold ref02_Rack_call refQ refX4
  refine wps_ex fun sl => wps_ex fun cl => wps_ex fun cs => ?_
  refine wps_prP fun hq => ?_
  repeat (first
    | (with_reducible refine wps_bindpure ?_)
    | (with_reducible refine wps_assoc ?_)
    | (with_reducible refine wps_nil ?_)
    | (with_reducible refine wps_stepAlloc fun _ => ?_)
    | (with_reducible refine wps_alloc fun _ => ?_)
    | (with_reducible refine wps_newO fun _ => ?_)
    | (refine wps_ld _ (by rfl) ?_)
    | (refine wps_ldG _ _ _ (by rfl) ?_)
    | (refine wps_ldA _ (by rfl) ?_)
    | (refine wps_ldI _ (by rfl) ?_)
    | (refine wps_ldGI _ _ _ (by rfl) ?_)
    | (refine wps_ldAI _ (by rfl) ?_)
    | (refine wps_st (by simp) ?_)
    | (refine wps_stA (by simp) (by simp [Value.oneCell']) ?_)
    | ((with_reducible apply wps_val); apply val_ite; rotate_left; refine fun (_ : ¬ _) => ?_; rotate_right; refine fun (_ : _ = true) => ?_)
    | ((with_reducible apply val_ite); rotate_left; refine fun (_ : ¬ _) => ?_; rotate_right; refine fun (_ : _ = true) => ?_)
    | (with_reducible refine wps_regionH ?_)
    | ((with_reducible apply wps_bindV); apply val_iteL; rotate_left; refine fun (_ : ¬ _) => ?_; rotate_right; refine fun (_ : _ = true) => ?_)
    | ((with_reducible apply val_iteL); rotate_left; refine fun (_ : ¬ _) => ?_; rotate_right; refine fun (_ : _ = true) => ?_)
    | (with_reducible exact wps_pure (ent_val rfl)))
  refine wps_ite (fun ho => ?_) (fun ho => ?_)
  · have ho' : R.count = 0 := by simpa using ho
    repeat (first
      | (with_reducible refine wps_bindpure ?_)
      | (with_reducible refine wps_assoc ?_)
      | (with_reducible refine wps_nil ?_)
      | (with_reducible refine wps_stepAlloc fun _ => ?_)
      | (with_reducible refine wps_alloc fun _ => ?_)
      | (with_reducible refine wps_newO fun _ => ?_)
      | (refine wps_ld _ (by rfl) ?_)
      | (refine wps_ldG _ _ _ (by rfl) ?_)
      | (refine wps_ldA _ (by rfl) ?_)
      | (refine wps_ldI _ (by rfl) ?_)
      | (refine wps_ldGI _ _ _ (by rfl) ?_)
      | (refine wps_ldAI _ (by rfl) ?_)
      | (refine wps_st (by simp) ?_)
      | (refine wps_stA (by simp) (by simp [Value.oneCell']) ?_)
      | ((with_reducible apply wps_val); apply val_ite; rotate_left; refine fun (_ : ¬ _) => ?_; rotate_right; refine fun (_ : _ = true) => ?_)
      | ((with_reducible apply val_ite); rotate_left; refine fun (_ : ¬ _) => ?_; rotate_right; refine fun (_ : _ = true) => ?_)
      | (with_reducible refine wps_regionH ?_)
      | ((with_reducible apply wps_bindV); apply val_iteL; rotate_left; refine fun (_ : ¬ _) => ?_; rotate_right; refine fun (_ : _ = true) => ?_)
      | ((with_reducible apply val_iteL); rotate_left; refine fun (_ : ¬ _) => ?_; rotate_right; refine fun (_ : _ = true) => ?_)
      | (with_reducible exact wps_pure (ent_val rfl)))
    refine wps_pure (ent_prr (by rw [if_pos ho']) (ent_ex sl (ent_ex cl (ent_ex cs ?_))))
    have ht : R.ticked = { R with off := true } := by rw [Rk.ticked, if_pos ho']
    rw [ht]
    refine ent_pickC (by rfl) ?_
    have e1 : rlast { R with off := true } = rlast R := rfl
    have e2 : rcach { R with off := true } = rcach R := rfl
    have e3 : bads { R with off := true } = bads R := rfl
    rw [e1, e2, e3]
    repeat (first
      | (with_reducible exact ent_drop)
      | (with_reducible refine ent_pick ?_)
      | (refine ent_pickC (by rfl) ?_)
      | (refine ent_pickS (by rfl) ?_)
      | (refine ent_pickM (by rfl) ?_)
      | (refine ent_prx ?_ ?_; rotate_left)
      | (refine ent_prq ?_))
    exact ⟨hq.hsl, hq.hcl, hq.hcs, hq.n17, hq.ns4, hq.hl1, hq.hl2, hq.hl3, hq.hl4, hq.ok, hq.cnt, ⟨hq.cok.pow, hq.cok.dks⟩⟩
  · have ho' : ¬ R.count = 0 := by simpa using ho
    have ht : R.ticked = { R with count := maxI (w64 (R.count - 1)) (-1), dk := fun j => (R.dk j).tick } := by rw [Rk.ticked, if_neg ho']
    have hpw := hq.cok.pow
    generalize hP : maxI (w64 (R.count - 1)) (-1) = P at *
    repeat (first
      | (with_reducible refine wps_bindpure ?_)
      | (with_reducible refine wps_assoc ?_)
      | (with_reducible refine wps_nil ?_)
      | (with_reducible refine wps_stepAlloc fun _ => ?_)
      | (with_reducible refine wps_alloc fun _ => ?_)
      | (with_reducible refine wps_newO fun _ => ?_)
      | (refine wps_ld _ (by rfl) ?_)
      | (refine wps_ldG _ _ _ (by rfl) ?_)
      | (refine wps_ldA _ (by rfl) ?_)
      | (refine wps_ldI _ (by rfl) ?_)
      | (refine wps_ldGI _ _ _ (by rfl) ?_)
      | (refine wps_ldAI _ (by rfl) ?_)
      | (refine wps_st (by simp) ?_)
      | (refine wps_stA (by simp) (by simp [Value.oneCell']) ?_)
      | (with_reducible refine wps_regionH ?_)
      | (with_reducible exact wps_pure (ent_val rfl)))
    refine wps_bindS (R := fun _ => seqp sl (rlast R) * seqp cl (rcach R) * own 1 l1 (sl.map vS) * own 1 l2 (cl.map vS) * own 1 l3 (bads R) * own 1 l4 (zv cs) * pc mb [.int .i64 R.n, .int .i64 R.ns, vS l1, vS l2, vS l3, vS l4, .int .i64 P, .bool R.off]) ?_ fun _ => ?_
    · refine wps_ite (fun hc => ?_) (fun hc => ?_)
      · have hc' : R.count > 0 := by simpa using hc
        repeat (first
          | (with_reducible refine wps_bindpure ?_)
          | (with_reducible refine wps_assoc ?_)
          | (with_reducible refine wps_nil ?_)
          | (with_reducible refine wps_stepAlloc fun _ => ?_)
          | (with_reducible refine wps_alloc fun _ => ?_)
          | (with_reducible refine wps_newO fun _ => ?_)
          | (refine wps_ld _ (by rfl) ?_)
          | (refine wps_ldG _ _ _ (by rfl) ?_)
          | (refine wps_ldA _ (by rfl) ?_)
          | (refine wps_ldI _ (by rfl) ?_)
          | (refine wps_ldGI _ _ _ (by rfl) ?_)
          | (refine wps_ldAI _ (by rfl) ?_)
          | (refine wps_st (by simp) ?_)
          | (refine wps_stA (by simp) (by simp [Value.oneCell']) ?_)
          | ((with_reducible apply wps_val); apply val_ite; rotate_left; refine fun (_ : ¬ _) => ?_; rotate_right; refine fun (_ : _ = true) => ?_)
          | ((with_reducible apply val_ite); rotate_left; refine fun (_ : ¬ _) => ?_; rotate_right; refine fun (_ : _ = true) => ?_)
          | (with_reducible refine wps_regionH ?_)
          | ((with_reducible apply wps_bindV); apply val_iteL; rotate_left; refine fun (_ : ¬ _) => ?_; rotate_right; refine fun (_ : _ = true) => ?_)
          | ((with_reducible apply val_iteL); rotate_left; refine fun (_ : ¬ _) => ?_; rotate_right; refine fun (_ : _ = true) => ?_)
          | (with_reducible exact wps_pure (ent_val rfl)))
        refine wps_pure ?_
        have : P = w64 (R.count - 1) := by
          rw [← hP, maxI, w64_id (by omega) (by omega), if_neg (by omega)]
        refine ent_pickC (by rw [this]; rfl) ?_
        repeat (first
          | (with_reducible exact ent_drop)
          | (with_reducible refine ent_pick ?_)
          | (refine ent_pickC (by rfl) ?_)
          | (refine ent_pickS (by rfl) ?_)
          | (refine ent_pickM (by rfl) ?_)
          | (refine ent_prx ?_ ?_; rotate_left)
          | (refine ent_prq ?_))
      · have hc' : ¬ R.count > 0 := by simpa using hc
        refine wps_pure ?_
        have : P = R.count := by
          have : R.count = -1 := by omega
          rw [← hP, maxI, this, w64_id (by omega) (by omega), if_pos (by omega)]
        rw [this]
        show Ent _ (_ * _)
        repeat (first
          | (with_reducible exact ent_drop)
          | (with_reducible refine ent_pick ?_)
          | (refine ent_pickC (by rfl) ?_)
          | (refine ent_pickS (by rfl) ?_)
          | (refine ent_pickM (by rfl) ?_)
          | (refine ent_prx ?_ ?_; rotate_left)
          | (refine ent_prq ?_))
    · refine wps_loop (fun i => ex fun n : Nat => ex fun cs : List Int => pr (i = (n : Int) ∧ n ≤ R.n ∧ cs.length = R.n ∧ ∀ j, j < R.n → (R.part n j).failed = false → cs[j]? = some (R.part n j).count) * seqp sl (rlast R) * seqp cl (rcach R) * own 1 l1 (sl.map vS) * own 1 l2 (cl.map vS) * own 1 l3 (badsT R n) * own 1 l4 (zv cs) * pc mb [.int .i64 R.n, .int .i64 R.ns, vS l1, vS l2, vS l3, vS l4, .int .i64 P, .bool R.off]) (fun i => (R.n - i).toNat) ?_ fun i => ?_
      · refine ent_ex 0 (ent_ex cs ?_)
        have hb : badsT R 0 = bads R := by simp [badsT, bads, Rk.part]
        rw [hb]
        repeat (first
          | (with_reducible exact ent_drop)
          | (with_reducible refine ent_pick ?_)
          | (refine ent_pickC (by rfl) ?_)
          | (refine ent_pickS (by rfl) ?_)
          | (refine ent_pickM (by rfl) ?_)
          | (refine ent_prx ?_ ?_; rotate_left)
          | (refine ent_prq ?_))
        refine ⟨rfl, by omega, hq.hcs, fun j hj hf => ?_⟩
        simp only [Rk.part, Nat.not_lt_zero, if_false] at hf ⊢
        exact hq.cnt j hj hf
      · refine wps_ex fun n => wps_ex fun cs => wps_prP fun ⟨hi, hn, hcl, hcnt⟩ => ?_
        repeat (first
          | (with_reducible refine wps_bindpure ?_)
          | (with_reducible refine wps_assoc ?_)
          | (with_reducible refine wps_nil ?_)
          | (with_reducible refine wps_stepAlloc fun _ => ?_)
          | (with_reducible refine wps_alloc fun _ => ?_)
          | (with_reducible refine wps_newO fun _ => ?_)
          | (refine wps_ld _ (by rfl) ?_)
          | (refine wps_ldG _ _ _ (by rfl) ?_)
          | (refine wps_ldA _ (by rfl) ?_)
          | (refine wps_ldI _ (by rfl) ?_)
          | (refine wps_ldGI _ _ _ (by rfl) ?_)
          | (refine wps_ldAI _ (by rfl) ?_)
          | (refine wps_st (by simp) ?_)
          | (refine wps_stA (by simp) (by simp [Value.oneCell']) ?_)
          | ((with_reducible apply wps_val); apply val_ite; rotate_left; refine fun (_ : ¬ _) => ?_; rotate_right; refine fun (_ : _ = true) => ?_)
          | ((with_reducible apply val_ite); rotate_left; refine fun (_ : ¬ _) => ?_; rotate_right; refine fun (_ : _ = true) => ?_)
          | (with_reducible refine wps_regionH ?_)
          | ((with_reducible apply wps_bindV); apply val_iteL; rotate_left; refine fun (_ : ¬ _) => ?_; rotate_right; refine fun (_ : _ = true) => ?_)
          | ((with_reducible apply val_iteL); rotate_left; refine fun (_ : ¬ _) => ?_; rotate_right; refine fun (_ : _ = true) => ?_)
          | (with_reducible exact wps_pure (ent_val rfl)))
        refine wps_ite (fun hc => ?_) (fun hc => ?_)
        · have hlt : n < R.n := by simp only [decide_eq_true_eq] at hc; omega
          have hn17 := hq.n17
          repeat (first
            | (with_reducible refine wps_bindpure ?_)
            | (with_reducible refine wps_assoc ?_)
            | (with_reducible refine wps_nil ?_)
            | (with_reducible refine wps_stepAlloc fun _ => ?_)
            | (with_reducible refine wps_alloc fun _ => ?_)
            | (with_reducible refine wps_newO fun _ => ?_)
            | (refine wps_ld _ (by rfl) ?_)
            | (refine wps_ldG _ _ _ (by rfl) ?_)
            | (refine wps_ldA _ (by rfl) ?_)
            | (refine wps_ldI _ (by rfl) ?_)
            | (refine wps_ldGI _ _ _ (by rfl) ?_)
            | (refine wps_ldAI _ (by rfl) ?_)
            | (refine wps_st (by simp) ?_)
            | (refine wps_stA (by simp) (by simp [Value.oneCell']) ?_)
            | ((with_reducible apply wps_val); apply val_ite; rotate_left; refine fun (_ : ¬ _) => ?_; rotate_right; refine fun (_ : _ = true) => ?_)
            | ((with_reducible apply val_ite); rotate_left; refine fun (_ : ¬ _) => ?_; rotate_right; refine fun (_ : _ = true) => ?_)
            | (with_reducible refine wps_regionH ?_)
            | ((with_reducible apply wps_bindV); apply val_iteL; rotate_left; refine fun (_ : ¬ _) => ?_; rotate_right; refine fun (_ : _ = true) => ?_)
            | ((with_reducible apply val_iteL); rotate_left; refine fun (_ : ¬ _) => ?_; rotate_right; refine fun (_ : _ = true) => ?_)
            | (with_reducible exact wps_pure (ent_val rfl)))
          have hpn : R.part n n = R.dk n := by simp [Rk.part]
          have hps : R.part (n + 1) n = (R.dk n).tick := by simp [Rk.part]
          have hpo : ∀ j, j ≠ n → R.part (n + 1) j = R.part n j := by
            intro j hj
            have : j < n + 1 ↔ j < n := by omega
            simp only [Rk.part, this]
          refine wps_rdS n (R.dk n).failed hi (by rw [badsT, List.getElem?_map, List.getElem?_range hlt, ← hpn]; rfl) ?_
          refine wps_ite (fun hf => ?_) (fun hf => ?_)
          · refine wps_pure ?_
            refine ent_prr (by rw [range_add1 hi (by omega)]; omega) (ent_ex (n + 1) (ent_ex cs ?_))
            have hb : badsT R n = badsT R (n + 1) := bads_same fun j hj => by
              by_cases hjn : j = n
              · subst hjn; rw [hps, hpn]; simp [hf]
              · rw [hpo j hjn]
            rw [hb]
            repeat (first
              | (with_reducible exact ent_drop)
              | (with_reducible refine ent_pick ?_)
              | (refine ent_pickC (by rfl) ?_)
              | (refine ent_pickS (by rfl) ?_)
              | (refine ent_pickM (by rfl) ?_)
              | (refine ent_prx ?_ ?_; rotate_left)
              | (refine ent_prq ?_))
            refine ⟨range_add1 hi (by omega), by omega, hcl, fun j hj hff => ?_⟩
            by_cases hjn : j = n
            · subst hjn; rw [hps] at hff; simp [hf] at hff
            · rw [hpo j hjn] at hff ⊢; exact hcnt j hj hff
          · have hff : (R.dk n).failed = false := by simpa using hf
            have hcn : cs[n]? = some (R.dk n).count := by rw [← hpn]; exact hcnt n hlt (by rw [hpn]; exact hff)
            have hdc := hq.cok.dks n
            repeat (first
              | (with_reducible refine wps_bindpure ?_)
              | (with_reducible refine wps_assoc ?_)
              | (with_reducible refine wps_nil ?_)
              | (with_reducible refine wps_stepAlloc fun _ => ?_)
              | (with_reducible refine wps_alloc fun _ => ?_)
              | (with_reducible refine wps_newO fun _ => ?_)
              | (refine wps_ld _ (by rfl) ?_)
              | (refine wps_ldG _ _ _ (by rfl) ?_)
              | (refine wps_ldA _ (by rfl) ?_)
              | (refine wps_ldI _ (by rfl) ?_)
              | (refine wps_ldGI _ _ _ (by rfl) ?_)
              | (refine wps_ldAI _ (by rfl) ?_)
              | (refine wps_st (by simp) ?_)
              | (refine wps_stA (by simp) (by simp [Value.oneCell']) ?_)
              | (with_reducible refine wps_regionH ?_)
              | (with_reducible exact wps_pure (ent_val rfl)))
            refine wps_rdS n (R.dk n).count hi (by simp [zv, hcn]) ?_
            refine wps_bindS (R := fun _ => seqp sl (rlast R) * seqp cl (rcach R) * own 1 l1 (sl.map vS) * own 1 l2 (cl.map vS) * own 1 l3 (badsT R (n + 1)) * own 1 l4 (zv cs) * pc mb [.int .i64 R.n, .int .i64 R.ns, vS l1, vS l2, vS l3, vS l4, .int .i64 P, .bool R.off]) ?_ fun _ => ?_
            · refine wps_ite (fun h0 => ?_) (fun h0 => ?_)
              · have h0' : (R.dk n).count = 0 := by simpa using h0
                repeat (first
                  | (with_reducible refine wps_bindpure ?_)
                  | (with_reducible refine wps_assoc ?_)
                  | (with_reducible refine wps_nil ?_)
                  | (with_reducible refine wps_stepAlloc fun _ => ?_)
                  | (with_reducible refine wps_alloc fun _ => ?_)
                  | (with_reducible refine wps_newO fun _ => ?_)
                  | (refine wps_ld _ (by rfl) ?_)
                  | (refine wps_ldG _ _ _ (by rfl) ?_)
                  | (refine wps_ldA _ (by rfl) ?_)
                  | (refine wps_ldI _ (by rfl) ?_)
                  | (refine wps_ldGI _ _ _ (by rfl) ?_)
                  | (refine wps_ldAI _ (by rfl) ?_)
                  | (refine wps_st (by simp) ?_)
                  | (refine wps_stA (by simp) (by simp [Value.oneCell']) ?_)
                  | ((with_reducible apply wps_val); apply val_ite; rotate_left; refine fun (_ : ¬ _) => ?_; rotate_right; refine fun (_ : _ = true) => ?_)
                  | ((with_reducible apply val_ite); rotate_left; refine fun (_ : ¬ _) => ?_; rotate_right; refine fun (_ : _ = true) => ?_)
                  | (with_reducible refine wps_regionH ?_)
                  | ((with_reducible apply wps_bindV); apply val_iteL; rotate_left; refine fun (_ : ¬ _) => ?_; rotate_right; refine fun (_ : _ = true) => ?_)
                  | ((with_reducible apply val_iteL); rotate_left; refine fun (_ : ¬ _) => ?_; rotate_right; refine fun (_ : _ = true) => ?_)
                  | (with_reducible exact wps_pure (ent_val rfl)))
                refine wps_wrS n hi (by rw [hq.hl3]; exact hlt) (wps_pure ?_)
                refine ent_pick (ent_pick (ent_pickS ?_ ?_))
                · exact bads_set hlt (by rw [hps]; simp [hff, h0']) fun j hj hjn => by rw [hpo j hjn]
                · repeat (first
                    | (with_reducible exact ent_drop)
                    | (with_reducible refine ent_pick ?_)
                    | (refine ent_pickC (by rfl) ?_)
                    | (refine ent_pickS (by rfl) ?_)
                    | (refine ent_pickM (by rfl) ?_)
                    | (refine ent_prx ?_ ?_; rotate_left)
                    | (refine ent_prq ?_))
              · have h0' : ¬ (R.dk n).count = 0 := by simpa using h0
                have hb : badsT R n = badsT R (n + 1) := bads_same fun j hj => by
                  by_cases hjn : j = n
                  · subst hjn; rw [hps, hpn]; simp [hff, h0']
                  · rw [hpo j hjn]
                rw [hb]
                refine wps_pure ?_
                show Ent _ (_ * _)
                repeat (first
                  | (with_reducible exact ent_drop)
                  | (with_reducible refine ent_pick ?_)
                  | (refine ent_pickC (by rfl) ?_)
                  | (refine ent_pickS (by rfl) ?_)
                  | (refine ent_pickM (by rfl) ?_)
                  | (refine ent_prx ?_ ?_; rotate_left)
                  | (refine ent_prq ?_))
            · repeat (first
                | (with_reducible refine wps_bindpure ?_)
                | (with_reducible refine wps_assoc ?_)
                | (with_reducible refine wps_nil ?_)
                | (with_reducible refine wps_stepAlloc fun _ => ?_)
                | (with_reducible refine wps_alloc fun _ => ?_)
                | (with_reducible refine wps_newO fun _ => ?_)
                | (refine wps_ld _ (by rfl) ?_)
                | (refine wps_ldG _ _ _ (by rfl) ?_)
                | (refine wps_ldA _ (by rfl) ?_)
                | (refine wps_ldI _ (by rfl) ?_)
                | (refine wps_ldGI _ _ _ (by rfl) ?_)
                | (refine wps_ldAI _ (by rfl) ?_)
                | (refine wps_st (by simp) ?_)
                | (refine wps_stA (by simp) (by simp [Value.oneCell']) ?_)
                | ((with_reducible apply wps_val); apply val_ite; rotate_left; refine fun (_ : ¬ _) => ?_; rotate_right; refine fun (_ : _ = true) => ?_)
                | ((with_reducible apply val_ite); rotate_left; refine fun (_ : ¬ _) => ?_; rotate_right; refine fun (_ : _ = true) => ?_)
                | (with_reducible refine wps_regionH ?_)
                | ((with_reducible apply wps_bindV); apply val_iteL; rotate_left; refine fun (_ : ¬ _) => ?_; rotate_right; refine fun (_ : _ = true) => ?_)
                | ((with_reducible apply val_iteL); rotate_left; refine fun (_ : ¬ _) => ?_; rotate_right; refine fun (_ : _ = true) => ?_)
                | (with_reducible exact wps_pure (ent_val rfl)))
              refine wps_rdS n (R.dk n).count hi (by simp [zv, hcn]) ?_
              have hgoal : ∀ cs' : List Int, cs'.length = R.n → (∀ j, j < R.n → j ≠ n → cs'[j]? = cs[j]?) → ((R.dk n).count ≠ 0 → cs'[n]? = some (maxI (w64 ((R.dk n).count - 1)) (-1))) →
                  (∀ j, j < R.n → (R.part (n + 1) j).failed = false → cs'[j]? = some (R.part (n + 1) j).count) := by
                intro cs' h1 h2 h3 j hj hfj
                by_cases hjn : j = n
                · subst hjn
                  rw [hps] at hfj ⊢
                  refine h3 fun h0 => ?_
                  simp [hff, h0] at hfj
                · rw [h2 j hj hjn]
                  rw [hpo j hjn] at hfj ⊢
                  exact hcnt j hj hfj
              refine wps_ite (fun hp => ?_) (fun hp => ?_)
              · have hp' : (R.dk n).count > 0 := by simpa using hp
                repeat (first
                  | (with_reducible refine wps_bindpure ?_)
                  | (with_reducible refine wps_assoc ?_)
                  | (with_reducible refine wps_nil ?_)
                  | (with_reducible refine wps_stepAlloc fun _ => ?_)
                  | (with_reducible refine wps_alloc fun _ => ?_)
                  | (with_reducible refine wps_newO fun _ => ?_)
                  | (refine wps_ld _ (by rfl) ?_)
                  | (refine wps_ldG _ _ _ (by rfl) ?_)
                  | (refine wps_ldA _ (by rfl) ?_)
                  | (refine wps_ldI _ (by rfl) ?_)
                  | (refine wps_ldGI _ _ _ (by rfl) ?_)
                  | (refine wps_ldAI _ (by rfl) ?_)
                  | (refine wps_st (by simp) ?_)
                  | (refine wps_stA (by simp) (by simp [Value.oneCell']) ?_)
                  | ((with_reducible apply wps_val); apply val_ite; rotate_left; refine fun (_ : ¬ _) => ?_; rotate_right; refine fun (_ : _ = true) => ?_)
                  | ((with_reducible apply val_ite); rotate_left; refine fun (_ : ¬ _) => ?_; rotate_right; refine fun (_ : _ = true) => ?_)
                  | (with_reducible refine wps_regionH ?_)
                  | ((with_reducible apply wps_bindV); apply val_iteL; rotate_left; refine fun (_ : ¬ _) => ?_; rotate_right; refine fun (_ : _ = true) => ?_)
                  | ((with_reducible apply val_iteL); rotate_left; refine fun (_ : ¬ _) => ?_; rotate_right; refine fun (_ : _ = true) => ?_)
                  | (with_reducible exact wps_pure (ent_val rfl)))
                refine wps_rdS n (R.dk n).count hi (by simp [zv, hcn]) ?_
                refine wps_wrS n hi (by rw [hq.hl4]; exact hlt) (wps_pure ?_)
                refine ent_prr (by rw [range_add1 hi (by omega)]; omega) (ent_ex (n + 1) (ent_ex (cs.set n (w64 ((R.dk n).count - 1))) ?_))
                refine ent_pick (ent_pickS (by simp [zv, List.map_set]) ?_)
                repeat (first
                  | (with_reducible exact ent_drop)
                  | (with_reducible refine ent_pick ?_)
                  | (refine ent_pickC (by rfl) ?_)
                  | (refine ent_pickS (by rfl) ?_)
                  | (refine ent_pickM (by rfl) ?_)
                  | (refine ent_prx ?_ ?_; rotate_left)
                  | (refine ent_prq ?_))
                refine ⟨range_add1 hi (by omega), by omega, by simpa using hcl, hgoal _ (by simpa using hcl) (fun j _ hjn => by rw [List.getElem?_set_ne (fun e => hjn e.symm)]) fun _ => ?_⟩
                rw [List.getElem?_set_self (by omega)]
                rw [maxI, w64_id (by omega) (by omega), if_neg (by omega)]
              · have hp' : ¬ (R.dk n).count > 0 := by simpa using hp
                refine wps_pure ?_
                refine ent_prr (by rw [range_add1 hi (by omega)]; omega) (ent_ex (n + 1) (ent_ex cs ?_))
                repeat (first
                  | (with_reducible exact ent_drop)
                  | (with_reducible refine ent_pick ?_)
                  | (refine ent_pickC (by rfl) ?_)
                  | (refine ent_pickS (by rfl) ?_)
                  | (refine ent_pickM (by rfl) ?_)
                  | (refine ent_prx ?_ ?_; rotate_left)
                  | (refine ent_prq ?_))
                refine ⟨range_add1 hi (by omega), by omega, hcl, hgoal _ hcl (fun j _ _ => rfl) fun h0 => ?_⟩
                have : (R.dk n).count = -1 := by omega
                rw [hcn, maxI, this, w64_id (by omega) (by omega), if_pos (by omega)]
        · have hne : n = R.n := by simp only [decide_eq_true_eq] at hc; omega
          subst hne
          refine wps_mapR (wps_pure ?_)
          refine ent_prr (by rw [if_neg ho']) (ent_ex sl (ent_ex cl (ent_ex cs ?_)))
          have e1 : rlast R.ticked = rlast R := by rw [ht]; rfl
          have e2 : rcach R.ticked = rcach R := by rw [ht]; rfl
          have e3 : bads R.ticked = badsT R R.n := by
            rw [ht]
            exact bads_same fun j hj => by simp [Rk.part, hj]
          have e4 : R.ticked.n = R.n := by rw [ht]
          have e5 : R.ticked.ns = R.ns := by rw [ht]
          have e6 : R.ticked.count = P := by rw [ht]
          have e7 : R.ticked.off = R.off := by rw [ht]
          have hdt : ∀ j, R.ticked.dk j = (R.dk j).tick := fun j => by rw [ht]
          rw [e1, e2, e3, e4, e5, e6, e7]
          repeat (first
            | (with_reducible exact ent_drop)
            | (with_reducible refine ent_pick ?_)
            | (refine ent_pickC (by rfl) ?_)
            | (refine ent_pickS (by rfl) ?_)
            | (refine ent_pickM (by rfl) ?_)
            | (refine ent_prx ?_ ?_; rotate_left)
            | (refine ent_prq ?_))
          have hq' : RQ R.ticked l1 l2 l3 l4 sl cl cs := by
            refine ⟨by rw [e4, e5]; exact hq.hsl, by rw [e4, e5]; exact hq.hcl, by rw [e4]; exact hcl, by rw [e4]; exact hq.n17, by rw [e5]; exact hq.ns4, by rw [e4, e5]; exact hq.hl1, by rw [e4, e5]; exact hq.hl2, by rw [e4]; exact hq.hl3, by rw [e4]; exact hq.hl4, fun j hj => ?_, fun j hj hf => ?_, hq.cok.ticked⟩
            · rw [e4] at hj; rw [hdt, e5]; exact hq.ok j hj
            · rw [e4] at hj
              rw [hdt] at hf ⊢
              have := hcnt j hj
              simp only [Rk.part, hj, if_true] at this
              exact this hf
          exact hq'
end Go.Proofs.Ytldmeimebebllaa
namespace Go.Proofs.Ytldmeimebebllaa
open Go.Mo
set_option linter.unusedVariables false
variable {g : Fr} {cv : CV}
theorem ref02_off {mb : Nat} {R : Rk} {l1 l2 l3 l4 : Slc} {α : Type} {F : HP} {K : Bool → M α} {Q : α → HP} (h : wps g (F * refQ mb R l1 l2 l3 l4) (K R.off) Q) : wps g (F * refQ mb R l1 l2 l3 l4) (bindM (ld Value.bool ⟨mb, 7, none⟩) K) Q := by
  refine wps_val (v := R.off) ?_ h
  show wps g _ (bindM (ld Value.bool ⟨mb, 7, none⟩) pureM) _
  unfold refQ refX4
  refine wps_exr fun sl => wps_exr fun cl => wps_exr fun cs => ?_
  repeat (first
    | (with_reducible refine wps_bindpure ?_)
    | (with_reducible refine wps_assoc ?_)
    | (with_reducible refine wps_nil ?_)
    | (with_reducible refine wps_stepAlloc fun _ => ?_)
    | (with_reducible refine wps_alloc fun _ => ?_)
    | (with_reducible refine wps_newO fun _ => ?_)
    | (refine wps_ld _ (by rfl) ?_)
    | (refine wps_ldG _ _ _ (by rfl) ?_)
    | (refine wps_ldA _ (by rfl) ?_)
    | (refine wps_ldI _ (by rfl) ?_)
    | (refine wps_ldGI _ _ _ (by rfl) ?_)
    | (refine wps_ldAI _ (by rfl) ?_)
    | (refine wps_st (by simp) ?_)
    | (refine wps_stA (by simp) (by simp [Value.oneCell']) ?_)
    | ((with_reducible apply wps_val); apply val_ite; rotate_left; refine fun (_ : ¬ _) => ?_; rotate_right; refine fun (_ : _ = true) => ?_)
    | ((with_reducible apply val_ite); rotate_left; refine fun (_ : ¬ _) => ?_; rotate_right; refine fun (_ : _ = true) => ?_)
    | (with_reducible refine wps_regionH ?_)
    | ((with_reducible apply wps_bindV); apply val_iteL; rotate_left; refine fun (_ : ¬ _) => ?_; rotate_right; refine fun (_ : _ = true) => ?_)
    | ((with_reducible apply val_iteL); rotate_left; refine fun (_ : ¬ _) => ?_; rotate_right; refine fun (_ : _ = true) => ?_)
    | (with_reducible exact wps_pure (ent_val rfl)))
  exact wps_pure (ent_prr rfl (Ent.starr (ent_ex sl (ent_ex cl (ent_ex cs (Ent.refl _))))))
/-- a part of the one, the rest of the other -/
def mix {α : Type} (m : Nat) (f f' : Nat → α) : Nat → α := fun i => if i < m then f i else f' i
theorem seqp_mix {A : HP} {sl : List Slc} {m : Nat} {f f' : Nat → List Int} {s : Slc} (h : Ent A (seqp sl (mix m f f'))) (hs : Ent A (byt s (f m))) : Ent A (seqp (sl.set m s) (mix (m + 1) f f')) :=
  Ent.trans (seqp_set (k := m) h hs) (seqp_ext fun i _ => by
    simp only [mix]
    by_cases hi : i = m
    · subst hi; simp
    · have : i < m + 1 ↔ i < m := by omega
      simp [hi, this])
theorem seqp_mixs {sl : List Slc} {m : Nat} {f f' : Nat → List Int} (h : f m = f' m) : Ent (seqp sl (mix m f f')) (seqp sl (mix (m + 1) f f')) := seqp_ext fun i _ => by
  simp only [mix]
  by_cases hi : i = m
  · subst hi; simp [h]
  · have : i < m + 1 ↔ i < m := by omega
    simp [this]
theorem flat_eq {k s j t ns : Nat} (hs : s < ns) (ht : t < ns) : k * ns + s = j * ns + t ↔ k = j ∧ s = t := by
  constructor
  · intro h
    have h1 := flat_div (k := k) hs
    have h2 := flat_div (k := j) ht
    rw [h] at h1
    exact ⟨h1.1.symm.trans h2.1, h1.2.symm.trans h2.2⟩
  · rintro ⟨rfl, rfl⟩; rfl
theorem put_rcach {R : Rk} {k s : Int} {b : List Int} {i : Nat} (hk : 0 ≤ k) (hs : 0 ≤ s ∧ s < R.ns) (i' : Nat) (hi : i = k.toNat * R.ns + s.toNat) : rcach (R.put k s b) i' = if i' = i then b else rcach R i' := by
  subst hi
  have h0 : 0 < R.ns := by omega
  have hd : i' = (i' / R.ns) * R.ns + i' % R.ns := by rw [Nat.mul_comm]; exact (Nat.div_add_mod i' R.ns).symm
  have hm : i' % R.ns < R.ns := Nat.mod_lt _ h0
  have hiff : i' = k.toNat * R.ns + s.toNat ↔ i' / R.ns = k.toNat ∧ i' % R.ns = s.toNat := by
    have := flat_eq (k := i' / R.ns) (s := i' % R.ns) (j := k.toNat) (t := s.toNat) hm (by omega)
    rw [← hd] at this
    exact this
  show (((R.put k s b).dk (i' / R.ns)).cached ((i' % R.ns : Nat) : Int)).getD [] = _
  simp only [Rk.put]
  by_cases h1 : i' / R.ns = k.toNat
  · rw [if_pos h1]
    by_cases h2 : i' % R.ns = s.toNat
    · rw [if_pos (hiff.2 ⟨h1, h2⟩)]
      simp only
      rw [if_pos (by omega)]; rfl
    · rw [if_neg (fun e => h2 (hiff.1 e).2)]
      simp only
      rw [if_neg (by omega)]; rfl
  · rw [if_neg h1, if_neg (fun e => h1 (hiff.1 e).1)]; rfl
theorem Rk.cok.put {R : Rk} (h : R.cok) (k s : Int) (b : List Int) : (R.put k s b).cok := ⟨h.pow, fun j => by
  simp only [Rk.put]; split
  · exact h.dks j
  · exact h.dks j⟩
theorem ticked_n (R : Rk) : R.ticked.n = R.n ∧ R.ticked.ns = R.ns := by
  unfold Rk.ticked; split <;> exact ⟨rfl, rfl⟩
theorem ref02_Write_spec {H : HP} (mb : Nat) (R : Rk) (l1 l2 l3 l4 : Slc) (k s : Int) (x : Slc) (b : List Int) (hx : Ent H (byt x b)) (hb : b.length ≤ 1099511627776) :
    wps g (H * refQ mb R l1 l2 l3 l4) (ref02_Rack_Write (ptr mb) k s x) (fun e => pr (e = R.gate k s b.length) * H * refQ mb (R.write k s b) l1 l2 l3 l4) := by
  unfold ref02_Rack_Write
  refine wps_fact (Ent.trans (ent_left _ _) (len_of hx)) fun hl => ?_
  have fin : ∀ e, e = R.gate k s b.length → e ≠ 0 → ∀ R', R' = R.gated k s b.length → Ent (H * refQ mb R' l1 l2 l3 l4) (pr (e = R.gate k s b.length) * H * refQ mb (R.write k s b) l1 l2 l3 l4) := by
    intro e he h0 R' hR'
    rw [Rk.write, if_neg (by omega), ← hR', star_assoc]
    exact ent_prr he (Ent.refl _)
  repeat (first
    | (with_reducible refine wps_bindpure ?_)
    | (with_reducible refine wps_assoc ?_)
    | (with_reducible refine wps_nil ?_)
    | (with_reducible refine wps_stepAlloc fun _ => ?_)
    | (with_reducible refine wps_alloc fun _ => ?_)
    | (with_reducible refine wps_newO fun _ => ?_)
    | (refine wps_ld _ (by rfl) ?_)
    | (refine wps_ldG _ _ _ (by rfl) ?_)
    | (refine wps_ldA _ (by rfl) ?_)
    | (refine wps_ldI _ (by rfl) ?_)
    | (refine wps_ldGI _ _ _ (by rfl) ?_)
    | (refine wps_ldAI _ (by rfl) ?_)
    | (refine wps_st (by simp) ?_)
    | (refine wps_stA (by simp) (by simp [Value.oneCell']) ?_)
    | ((with_reducible apply wps_val); apply val_ite; rotate_left; refine fun (_ : ¬ _) => ?_; rotate_right; refine fun (_ : _ = true) => ?_)
    | ((with_reducible apply val_ite); rotate_left; refine fun (_ : ¬ _) => ?_; rotate_right; refine fun (_ : _ = true) => ?_)
    | (with_reducible refine wps_regionH ?_)
    | ((with_reducible apply wps_bindV); apply val_iteL; rotate_left; refine fun (_ : ¬ _) => ?_; rotate_right; refine fun (_ : _ = true) => ?_)
    | ((with_reducible apply val_iteL); rotate_left; refine fun (_ : ¬ _) => ?_; rotate_right; refine fun (_ : _ = true) => ?_)
    | (with_reducible exact wps_pure (ent_val rfl)))
  refine ref02_off ?_
  by_cases ho : R.off = true
  · rw [if_pos ho]
    exact wps_pure (fin _ (by simp [Rk.gate, ho]) (by omega) _ (by simp [Rk.gated, ho]))
  rw [if_neg ho]
  refine wps_val (val_frame (F := H) (fun _ => ref02_there_val mb R l1 l2 l3 l4 k s) rfl) ?_
  by_cases ht : thereB R k s = true
  rotate_left
  · have hn : (k < 0 ∨ k ≥ R.n ∨ s < 0 ∨ s ≥ R.ns) := Classical.byContradiction fun h => ht (there_or.2 h)
    rw [show thereB R k s = false by simpa using ht]
    refine wps_val (v := true) (wps_ite (fun _ => wps_pure (ent_val rfl)) (fun h => absurd rfl h)) ?_
    refine wps_ite (fun _ => ?_) (fun h => absurd rfl h)
    exact wps_pure (fin _ (by simp only [Rk.gate, if_neg ho, if_pos hn]) (by omega) _ (by rw [Rk.gated, if_pos (.inr (.inl hn))]))
  have hn := there_or.1 ht
  rw [ht]
  by_cases hs : ((b.length : Nat) : Int) ≠ 64
  · refine wps_val (v := true) (wps_ite (fun h => absurd h (by decide)) (fun _ => wps_pure (ent_val (by rw [← hl]; simpa using hs)))) ?_
    refine wps_ite (fun _ => ?_) (fun h => absurd rfl h)
    exact wps_pure (fin _ (by simp only [Rk.gate, if_neg ho, if_neg hn, if_pos hs]) (by omega) _ (by rw [Rk.gated, if_pos (.inr (.inr hs))]))
  have hs' : ((b.length : Nat) : Int) = 64 := by omega
  refine wps_val (v := false) (wps_ite (fun h => absurd h (by decide)) (fun _ => wps_pure (ent_val (by rw [← hl]; simpa using hs')))) ?_
  refine wps_ite (fun h => absurd h (by decide)) (fun _ => ?_)
  have hgd : R.gated k s b.length = R.ticked := by
    rw [Rk.gated, if_neg]
    rintro (h | h | h)
    · exact ho h
    · exact hn h
    · exact hs h
  refine wps_call (F := H) (fun _ => ref02_call_spec mb R l1 l2 l3 l4) (Ent.refl _) fun e => ?_
  rw [star_left_comm]
  refine wps_pr fun he => ?_
  by_cases hc : R.count = 0
  · rw [if_pos hc] at he
    subst he
    refine wps_ite (fun _ => ?_) (fun h => absurd rfl h)
    exact wps_pure (fin _ (by simp only [Rk.gate, if_neg ho, if_neg hn, if_neg hs, if_pos hc]) (by omega) _ hgd.symm)
  rw [if_neg hc] at he
  subst he
  refine wps_ite (fun h => absurd h (by decide)) (fun _ => ?_)
  obtain ⟨hk2, hs2⟩ := there_true ht
  have htn := ticked_n R
  have ht' : thereB R.ticked k s = true := by simp only [thereB, htn.1, htn.2]; exact ht
  unfold refQ
  refine wps_exr fun sl => wps_exr fun cl => wps_exr fun cs => ?_
  unfold refX4
  simp only [← star_assoc]
  refine wps_factP fun hq => ?_
  obtain ⟨i, hi, hie, hw, hlst, hcst, hk, hss⟩ := hq.at ht'
  repeat (first
    | (with_reducible refine wps_bindpure ?_)
    | (with_reducible refine wps_assoc ?_)
    | (with_reducible refine wps_nil ?_)
    | (with_reducible refine wps_stepAlloc fun _ => ?_)
    | (with_reducible refine wps_alloc fun _ => ?_)
    | (with_reducible refine wps_newO fun _ => ?_)
    | (refine wps_ld _ (by rfl) ?_)
    | (refine wps_ldG _ _ _ (by rfl) ?_)
    | (refine wps_ldA _ (by rfl) ?_)
    | (refine wps_ldI _ (by rfl) ?_)
    | (refine wps_ldGI _ _ _ (by rfl) ?_)
    | (refine wps_ldAI _ (by rfl) ?_)
    | (refine wps_st (by simp) ?_)
    | (refine wps_stA (by simp) (by simp [Value.oneCell']) ?_)
    | ((with_reducible apply wps_val); apply val_ite; rotate_left; refine fun (_ : ¬ _) => ?_; rotate_right; refine fun (_ : _ = true) => ?_)
    | ((with_reducible apply val_ite); rotate_left; refine fun (_ : ¬ _) => ?_; rotate_right; refine fun (_ : _ = true) => ?_)
    | (with_reducible refine wps_regionH ?_)
    | ((with_reducible apply wps_bindV); apply val_iteL; rotate_left; refine fun (_ : ¬ _) => ?_; rotate_right; refine fun (_ : _ = true) => ?_)
    | ((with_reducible apply val_iteL); rotate_left; refine fun (_ : ¬ _) => ?_; rotate_right; refine fun (_ : _ = true) => ?_)
    | (with_reducible exact wps_pure (ent_val rfl)))
  refine wps_rdS k.toNat (R.ticked.dk k.toNat).failed (by omega) (by rw [bads, List.getElem?_map, List.getElem?_range hk]; rfl) ?_
  refine wps_ite (fun hf => ?_) (fun hf => ?_)
  · have hg : R.gate k s b.length = 13 := by simp only [Rk.gate, if_neg ho, if_neg hn, if_neg hs, if_neg hc, if_pos hf]
    refine wps_pure ?_
    have := fin 13 hg.symm (by omega) _ hgd.symm
    unfold refQ refX4 at this
    refine Ent.trans ?_ this
    refine Ent.trans ?_ (Ent.starr (ent_ex sl (ent_ex cl (ent_ex cs (Ent.refl _)))))
    simp only [← star_assoc]
    exact Ent.refl _
  · have hg : R.gate k s b.length = 0 := by simp only [Rk.gate, if_neg ho, if_neg hn, if_neg hs, if_neg hc, if_neg hf]
    have hwr : R.write k s b = R.ticked.put k s b := by rw [Rk.write, if_pos hg, hgd]
    rw [hwr, hg]
    refine wps_regionH ?_
    repeat (first
      | (with_reducible refine wps_bindpure ?_)
      | (with_reducible refine wps_assoc ?_)
      | (with_reducible refine wps_nil ?_)
      | (with_reducible refine wps_stepAlloc fun _ => ?_)
      | (with_reducible refine wps_alloc fun _ => ?_)
      | (with_reducible refine wps_newO fun _ => ?_)
      | (refine wps_ld _ (by rfl) ?_)
      | (refine wps_ldG _ _ _ (by rfl) ?_)
      | (refine wps_ldA _ (by rfl) ?_)
      | (refine wps_ldI _ (by rfl) ?_)
      | (refine wps_ldGI _ _ _ (by rfl) ?_)
      | (refine wps_ldAI _ (by rfl) ?_)
      | (refine wps_st (by simp) ?_)
      | (refine wps_stA (by simp) (by simp [Value.oneCell']) ?_)
      | ((with_reducible apply wps_val); apply val_ite; rotate_left; refine fun (_ : ¬ _) => ?_; rotate_right; refine fun (_ : _ = true) => ?_)
      | ((with_reducible apply val_ite); rotate_left; refine fun (_ : ¬ _) => ?_; rotate_right; refine fun (_ : _ = true) => ?_)
      | (with_reducible refine wps_regionH ?_)
      | ((with_reducible apply wps_bindV); apply val_iteL; rotate_left; refine fun (_ : ¬ _) => ?_; rotate_right; refine fun (_ : _ = true) => ?_)
      | ((with_reducible apply val_iteL); rotate_left; refine fun (_ : ¬ _) => ?_; rotate_right; refine fun (_ : _ = true) => ?_)
      | (with_reducible exact wps_pure (ent_val rfl)))
    rw [hw]
    refine wps_step1 (ref00_CopyBytes_spec (b := b) (Ent.trans (ent_drop (B := H)) hx) hb) fun s' => ?_
    refine wps_wrS i rfl (by rw [hq.hl2]; exact hi) (wps_pure ?_)
    refine Ent.trans ?_ (Ent.starr (ent_ex sl (ent_ex (cl.set i s') (ent_ex cs (Ent.refl _)))))
    have e1 : rlast (R.ticked.put k s b) = rlast R.ticked := by
      funext j
      show ((R.ticked.put k s b).dk _).lasts _ = _
      simp only [Rk.put]
      split <;> rfl
    have e3 : bads (R.ticked.put k s b) = bads R.ticked := by
      refine (bads_same fun j _ => ?_).symm
      simp only [Rk.put]
      split <;> rfl
    rw [e1, e3]
    simp only [← star_assoc]
    refine ent_pickC (by rfl) (ent_pick (ent_pick (ent_pickS (by rw [List.map_set]; rfl) (ent_pick ?_))))
    refine ent_swap (A := own 1 s' (bv b)) (B := byt s' b) (own_rsl _ _ _) ?_
    refine ent_join (A := seqp cl (rcach R.ticked)) (B := byt s' b) (C := seqp (cl.set i s') (rcach (R.ticked.put k s b))) (Ent.trans (seqp_set (k := i) (b := b) (ent_left _ _) (ent_right _ _)) (seqp_ext fun j _ => ?_)) ?_
    · exact (put_rcach (R := R.ticked) (i := i) hk2.1 (by rw [htn.2]; exact hs2) j hie).symm
    · repeat (first
        | (with_reducible exact ent_drop)
        | (with_reducible refine ent_pick ?_)
        | (refine ent_pickC (by rfl) ?_)
        | (refine ent_pickS (by rfl) ?_)
        | (refine ent_pickM (by rfl) ?_)
        | (refine ent_prx ?_ ?_; rotate_left)
        | (refine ent_prq ?_))
      all_goals first | trivial | skip
      refine ⟨hq.hsl, by rw [List.length_set]; exact hq.hcl, hq.hcs, hq.n17, hq.ns4, hq.hl1, hq.hl2, hq.hl3, hq.hl4, fun j hj => ?_, fun j hj hff => ?_, hq.cok.put _ _ _⟩
      · have hok := hq.ok j hj
        simp only [Rk.put]
        split
        · refine ⟨hok.1, fun q b' hb' => ?_⟩
          simp only at hb'
          by_cases hqs : q = s
          · rw [if_pos hqs] at hb'
            cases hb'
            rw [hqs]
            have := hs2.2
            exact ⟨by omega, hs2.1, by omega⟩
          · rw [if_neg hqs] at hb'
            exact hok.2 q b' hb'
        · exact hok
      · have := hq.cnt j hj
        simp only [Rk.put] at hff ⊢
        by_cases hjk : j = k.toNat
        · rw [if_pos hjk] at hff ⊢
          exact this hff
        · rw [if_neg hjk] at hff ⊢
          exact this hff
end Go.Proofs.Ytldmeimebebllaa
namespace Go.Proofs.Ytldmeimebebllaa
open Go.Mo
set_option linter.unusedVariables false
variable {g : Fr} {cv : CV}
theorem setD_other {R : Rk} {k : Nat} {D : Dk} {i : Nat} (h : i / R.ns ≠ k) : rlast (R.setD k D) i = rlast R i ∧ rcach (R.setD k D) i = rcach R i := by
  constructor
  · show ((R.setD k D).dk (i / R.ns)).lasts _ = _
    simp only [Rk.setD, if_neg h]; rfl
  · show (((R.setD k D).dk (i / R.ns)).cached _).getD [] = _
    simp only [Rk.setD, if_neg h]; rfl
theorem setD_at {R : Rk} {k : Nat} {D : Dk} {t : Nat} (h : t < R.ns) : rlast (R.setD k D) (k * R.ns + t) = D.lasts t ∧ rcach (R.setD k D) (k * R.ns + t) = (D.cached (t : Int)).getD [] := by
  have hd := flat_div (k := k) h
  constructor
  · show ((R.setD k D).dk ((k * R.ns + t) / R.ns)).lasts ((k * R.ns + t) % R.ns) = _
    rw [hd.1, hd.2]; simp [Rk.setD]
  · show (((R.setD k D).dk ((k * R.ns + t) / R.ns)).cached (((k * R.ns + t) % R.ns : Nat) : Int)).getD [] = _
    rw [hd.1, hd.2]; simp [Rk.setD]
theorem ref_at {R : Rk} {k t : Nat} (h : t < R.ns) : rlast R (k * R.ns + t) = (R.dk k).lasts t ∧ rcach R (k * R.ns + t) = ((R.dk k).cached (t : Int)).getD [] := by
  have hd := flat_div (k := k) h
  exact ⟨by rw [rlast, hd.1, hd.2], by rw [rcach, hd.1, hd.2]⟩
theorem before_k {ns i k : Nat} (h : i < k * ns) : i / ns ≠ k := by
  intro e
  have : i < k * ns := h
  have h0 : 0 < ns := Nat.pos_of_ne_zero fun h0 => by rw [h0] at this; omega
  have := (Nat.div_lt_iff_lt_mul h0).2 this
  omega
theorem after_k {ns i k : Nat} (h : (k + 1) * ns ≤ i) (h0 : 0 < ns) : i / ns ≠ k := by
  intro e
  have := (Nat.le_div_iff_mul_le h0).2 h
  omega
theorem RQ.flat {R : Rk} {l1 l2 l3 l4 : Slc} {sl cl : List Slc} {cs : List Int} (h : RQ R l1 l2 l3 l4 sl cl cs) {k : Int} (hk : 0 ≤ k ∧ k < R.n) : w64 (k * (R.ns : Int)) = ((k.toNat * R.ns : Nat) : Int) ∧ w64 (w64 (k + 1) * (R.ns : Int)) = (((k.toNat + 1) * R.ns : Nat) : Int) ∧ (k.toNat + 1) * R.ns ≤ R.n * R.ns ∧ (k.toNat + 1) * R.ns ≤ 69632 := by
  obtain ⟨K, rfl⟩ : ∃ K : Nat, k = (K : Int) := ⟨k.toNat, by omega⟩
  have h17 := h.n17
  have h1 : (K + 1) * R.ns ≤ R.n * R.ns := Nat.mul_le_mul_right _ (by omega)
  have h2 : R.n * R.ns ≤ 17 * 4096 := Nat.mul_le_mul h17 h.ns4
  have h3 : K * R.ns ≤ (K + 1) * R.ns := Nat.mul_le_mul_right _ (by omega)
  simp only [Int.toNat_natCast]
  refine ⟨?_, ?_, h1, by omega⟩
  · rw [← Int.natCast_mul, w64_id] <;> omega
  · rw [w64_id (n := (K : Int) + 1) (by omega) (by omega), show (K : Int) + 1 = ((K + 1 : Nat) : Int) by omega, ← Int.natCast_mul, w64_id] <;> omega
theorem RQ.setD {R : Rk} {l1 l2 l3 l4 : Slc} {sl cl sl' cl' : List Slc} {cs : List Int} (h : RQ R l1 l2 l3 l4 sl cl cs) {k : Nat} {D : Dk} (hok : k < R.n → D.ok R.ns) (hf : D.failed = (R.dk k).failed) (hc : D.count = (R.dk k).count) (h1 : sl'.length = R.n * R.ns) (h2 : cl'.length = R.n * R.ns) : RQ (R.setD k D) l1 l2 l3 l4 sl' cl' cs := by
  refine ⟨h1, h2, h.hcs, h.n17, h.ns4, h.hl1, h.hl2, h.hl3, h.hl4, fun j hj => ?_, fun j hj hff => ?_, h.cok.setD (by rw [hc]; exact h.cok.dks k)⟩
  · simp only [Rk.setD]
    split
    · rename_i e; subst e; exact hok hj
    · exact h.ok j hj
  · simp only [Rk.setD] at hff ⊢
    by_cases e : j = k
    · subst e
      rw [if_pos rfl] at hff ⊢
      rw [hc]; exact h.cnt j hj (by rw [← hf]; exact hff)
    · rw [if_neg e] at hff ⊢
      exact h.cnt j hj hff
theorem bads_setD {R : Rk} {k : Nat} {D : Dk} (hf : D.failed = (R.dk k).failed) : bads (R.setD k D) = bads R := by
  refine (bads_same fun j _ => ?_).symm
  simp only [Rk.setD]
  split
  · rename_i e; subst e; exact hf
  · rfl
theorem ref02_Flush_spec (mb : Nat) (R : Rk) (l1 l2 l3 l4 : Slc) (k : Int) :
    wps g (refQ mb R l1 l2 l3 l4) (ref02_Rack_Flush (ptr mb) k) (fun e => pr (e = R.gate k 0 64) * refQ mb (R.flush k) l1 l2 l3 l4) := by
  unfold ref02_Rack_Flush
  have fin : ∀ e, e = R.gate k 0 64 → e ≠ 0 → ∀ R', R' = R.gated k 0 64 → Ent (refQ mb R' l1 l2 l3 l4) (pr (e = R.gate k 0 64) * refQ mb (R.flush k) l1 l2 l3 l4) := by
    intro e he h0 R' hR'
    rw [Rk.flush, if_neg (by omega), ← hR']
    exact ent_prr he (Ent.refl _)
  repeat (first
    | (with_reducible refine wps_bindpure ?_)
    | (with_reducible refine wps_assoc ?_)
    | (with_reducible refine wps_nil ?_)
    | (with_reducible refine wps_stepAlloc fun _ => ?_)
    | (with_reducible refine wps_alloc fun _ => ?_)
    | (with_reducible refine wps_newO fun _ => ?_)
    | (refine wps_ld _ (by rfl) ?_)
    | (refine wps_ldG _ _ _ (by rfl) ?_)
    | (refine wps_ldA _ (by rfl) ?_)
    | (refine wps_ldI _ (by rfl) ?_)
    | (refine wps_ldGI _ _ _ (by rfl) ?_)
    | (refine wps_ldAI _ (by rfl) ?_)
    | (refine wps_st (by simp) ?_)
    | (refine wps_stA (by simp) (by simp [Value.oneCell']) ?_)
    | ((with_reducible apply wps_val); apply val_ite; rotate_left; refine fun (_ : ¬ _) => ?_; rotate_right; refine fun (_ : _ = true) => ?_)
    | ((with_reducible apply val_ite); rotate_left; refine fun (_ : ¬ _) => ?_; rotate_right; refine fun (_ : _ = true) => ?_)
    | (with_reducible refine wps_regionH ?_)
    | ((with_reducible apply wps_bindV); apply val_iteL; rotate_left; refine fun (_ : ¬ _) => ?_; rotate_right; refine fun (_ : _ = true) => ?_)
    | ((with_reducible apply val_iteL); rotate_left; refine fun (_ : ¬ _) => ?_; rotate_right; refine fun (_ : _ = true) => ?_)
    | (with_reducible exact wps_pure (ent_val rfl)))
  rw [← emp_star (refQ mb R l1 l2 l3 l4)]
  refine ref02_off ?_
  rw [emp_star]
  by_cases ho : R.off = true
  · rw [if_pos ho]
    exact wps_pure (fin _ (by simp [Rk.gate, ho]) (by omega) _ (by simp [Rk.gated, ho]))
  rw [if_neg ho]
  refine wps_val (ref02_there_val mb R l1 l2 l3 l4 k 0) ?_
  by_cases ht : thereB R k 0 = true
  rotate_left
  · have hn : (k < 0 ∨ k ≥ R.n ∨ (0 : Int) < 0 ∨ (0 : Int) ≥ R.ns) := Classical.byContradiction fun h => ht (there_or.2 h)
    rw [show thereB R k 0 = false by simpa using ht]
    refine wps_ite (fun _ => ?_) (fun h => absurd rfl h)
    exact wps_pure (fin _ (by simp only [Rk.gate, if_neg ho, if_pos hn]) (by omega) _ (by rw [Rk.gated, if_pos (.inr (.inl hn))]))
  have hn := there_or.1 ht
  rw [ht]
  refine wps_ite (fun h => absurd h (by decide)) (fun _ => ?_)
  have hs : ¬ (64 : Int) ≠ 64 := by omega
  have hgd : R.gated k 0 64 = R.ticked := by
    rw [Rk.gated, if_neg]
    rintro (h | h | h)
    · exact ho h
    · exact hn h
    · exact hs h
  refine wps_bind (ref02_call_spec mb R l1 l2 l3 l4) fun e => ?_
  refine wps_pr fun he => ?_
  by_cases hc : R.count = 0
  · rw [if_pos hc] at he
    subst he
    refine wps_ite (fun _ => ?_) (fun h => absurd rfl h)
    exact wps_pure (fin _ (by simp only [Rk.gate, if_neg ho, if_neg hn, if_neg hs, if_pos hc]) (by omega) _ hgd.symm)
  rw [if_neg hc] at he
  subst he
  refine wps_ite (fun h => absurd h (by decide)) (fun _ => ?_)
  obtain ⟨hk2, hs2⟩ := there_true ht
  have htn := ticked_n R
  rw [← htn.1] at hk2
  rw [← htn.2] at hs2
  unfold refQ
  refine wps_exP fun sl => wps_exP fun cl => wps_exP fun cs => ?_
  unfold refX4
  simp only [← star_assoc]
  refine wps_factP fun hq => ?_
  have hkl : k.toNat < R.ticked.n := by omega
  repeat (first
    | (with_reducible refine wps_bindpure ?_)
    | (with_reducible refine wps_assoc ?_)
    | (with_reducible refine wps_nil ?_)
    | (with_reducible refine wps_stepAlloc fun _ => ?_)
    | (with_reducible refine wps_alloc fun _ => ?_)
    | (with_reducible refine wps_newO fun _ => ?_)
    | (refine wps_ld _ (by rfl) ?_)
    | (refine wps_ldG _ _ _ (by rfl) ?_)
    | (refine wps_ldA _ (by rfl) ?_)
    | (refine wps_ldI _ (by rfl) ?_)
    | (refine wps_ldGI _ _ _ (by rfl) ?_)
    | (refine wps_ldAI _ (by rfl) ?_)
    | (refine wps_st (by simp) ?_)
    | (refine wps_stA (by simp) (by simp [Value.oneCell']) ?_)
    | ((with_reducible apply wps_val); apply val_ite; rotate_left; refine fun (_ : ¬ _) => ?_; rotate_right; refine fun (_ : _ = true) => ?_)
    | ((with_reducible apply val_ite); rotate_left; refine fun (_ : ¬ _) => ?_; rotate_right; refine fun (_ : _ = true) => ?_)
    | (with_reducible refine wps_regionH ?_)
    | ((with_reducible apply wps_bindV); apply val_iteL; rotate_left; refine fun (_ : ¬ _) => ?_; rotate_right; refine fun (_ : _ = true) => ?_)
    | ((with_reducible apply val_iteL); rotate_left; refine fun (_ : ¬ _) => ?_; rotate_right; refine fun (_ : _ = true) => ?_)
    | (with_reducible exact wps_pure (ent_val rfl)))
  refine wps_rdS k.toNat (R.ticked.dk k.toNat).failed (by omega) (by rw [bads, List.getElem?_map, List.getElem?_range hkl]; rfl) ?_
  refine wps_ite (fun hf => ?_) (fun hf => ?_)
  · have hg : R.gate k 0 64 = 13 := by simp only [Rk.gate, if_neg ho, if_neg hn, if_neg hs, if_neg hc, if_pos hf]
    refine wps_pure ?_
    have := fin 13 hg.symm (by omega) _ hgd.symm
    unfold refQ refX4 at this
    refine Ent.trans ?_ this
    refine Ent.trans ?_ (ent_ex sl (ent_ex cl (ent_ex cs (Ent.refl _))))
    exact Ent.of_eq (by simp only [emp_star])
  · have hg : R.gate k 0 64 = 0 := by simp only [Rk.gate, if_neg ho, if_neg hn, if_neg hs, if_neg hc, if_neg hf]
    have hfl : R.flush k = R.ticked.setD k.toNat ((R.ticked.dk k.toNat).flushed fun _ => true).clean := by rw [Rk.flush, if_pos hg, hgd]
    rw [hfl, hg]
    generalize R.ticked = R1 at *
    obtain ⟨w1, w2, w3, w4⟩ := hq.flat hk2
    generalize k.toNat = K at *
    generalize hD : ((R1.dk K).flushed fun _ => true).clean = D at *
    repeat (first
      | (with_reducible refine wps_bindpure ?_)
      | (with_reducible refine wps_assoc ?_)
      | (with_reducible refine wps_nil ?_)
      | (with_reducible refine wps_stepAlloc fun _ => ?_)
      | (with_reducible refine wps_alloc fun _ => ?_)
      | (with_reducible refine wps_newO fun _ => ?_)
      | (refine wps_ld _ (by rfl) ?_)
      | (refine wps_ldG _ _ _ (by rfl) ?_)
      | (refine wps_ldA _ (by rfl) ?_)
      | (refine wps_ldI _ (by rfl) ?_)
      | (refine wps_ldGI _ _ _ (by rfl) ?_)
      | (refine wps_ldAI _ (by rfl) ?_)
      | (refine wps_st (by simp) ?_)
      | (refine wps_stA (by simp) (by simp [Value.oneCell']) ?_)
      | ((with_reducible apply wps_val); apply val_ite; rotate_left; refine fun (_ : ¬ _) => ?_; rotate_right; refine fun (_ : _ = true) => ?_)
      | ((with_reducible apply val_ite); rotate_left; refine fun (_ : ¬ _) => ?_; rotate_right; refine fun (_ : _ = true) => ?_)
      | (with_reducible refine wps_regionH ?_)
      | ((with_reducible apply wps_bindV); apply val_iteL; rotate_left; refine fun (_ : ¬ _) => ?_; rotate_right; refine fun (_ : _ = true) => ?_)
      | ((with_reducible apply val_iteL); rotate_left; refine fun (_ : ¬ _) => ?_; rotate_right; refine fun (_ : _ = true) => ?_)
      | (with_reducible exact wps_pure (ent_val rfl)))
    rw [w1]
    refine wps_loop (fun s => ex fun m : Nat => ex fun sl : List Slc => ex fun cl : List Slc => pr (s = (m : Int) ∧ K * R1.ns ≤ m ∧ m ≤ (K + 1) * R1.ns ∧ sl.length = R1.n * R1.ns ∧ cl.length = R1.n * R1.ns) * seqp sl (mix m (rlast (R1.setD K D)) (rlast R1)) * seqp cl (mix m (rcach (R1.setD K D)) (rcach R1)) * own 1 l1 (sl.map vS) * own 1 l2 (cl.map vS) * own 1 l3 (bads R1) * own 1 l4 (zv cs) * pc mb [.int .i64 R1.n, .int .i64 R1.ns, vS l1, vS l2, vS l3, vS l4, .int .i64 R1.count, .bool R1.off]) (fun s => ((((K + 1) * R1.ns : Nat) : Int) - s).toNat) ?_ fun s => ?_
    · refine ent_ex (K * R1.ns) (ent_ex sl (ent_ex cl ?_))
      refine ent_swap (A := seqp sl (rlast R1)) (B := seqp sl (mix (K * R1.ns) (rlast (R1.setD K D)) (rlast R1))) (seqp_ext fun i _ => ?_) ?_
      · simp only [mix]; split
        · rename_i h; exact ((setD_other (before_k h)).1).symm
        · rfl
      refine ent_swap (A := seqp cl (rcach R1)) (B := seqp cl (mix (K * R1.ns) (rcach (R1.setD K D)) (rcach R1))) (seqp_ext fun i _ => ?_) ?_
      · simp only [mix]; split
        · rename_i h; exact ((setD_other (before_k h)).2).symm
        · rfl
      repeat (first
        | (with_reducible exact ent_drop)
        | (with_reducible refine ent_pick ?_)
        | (refine ent_pickC (by rfl) ?_)
        | (refine ent_pickS (by rfl) ?_)
        | (refine ent_pickM (by rfl) ?_)
        | (refine ent_prx ?_ ?_; rotate_left)
        | (refine ent_prq ?_))
      exact ⟨rfl, Nat.le_refl _, Nat.mul_le_mul_right _ (by omega), hq.hsl, hq.hcl⟩
    · refine wps_ex fun m => wps_ex fun sl => wps_ex fun cl => wps_prP fun ⟨hm, hm1, hm2, hsl, hcl⟩ => ?_
      repeat (first
        | (with_reducible refine wps_bindpure ?_)
        | (with_reducible refine wps_assoc ?_)
        | (with_reducible refine wps_nil ?_)
        | (with_reducible refine wps_stepAlloc fun _ => ?_)
        | (with_reducible refine wps_alloc fun _ => ?_)
        | (with_reducible refine wps_newO fun _ => ?_)
        | (refine wps_ld _ (by rfl) ?_)
        | (refine wps_ldG _ _ _ (by rfl) ?_)
        | (refine wps_ldA _ (by rfl) ?_)
        | (refine wps_ldI _ (by rfl) ?_)
        | (refine wps_ldGI _ _ _ (by rfl) ?_)
        | (refine wps_ldAI _ (by rfl) ?_)
        | (refine wps_st (by simp) ?_)
        | (refine wps_stA (by simp) (by simp [Value.oneCell']) ?_)
        | ((with_reducible apply wps_val); apply val_ite; rotate_left; refine fun (_ : ¬ _) => ?_; rotate_right; refine fun (_ : _ = true) => ?_)
        | ((with_reducible apply val_ite); rotate_left; refine fun (_ : ¬ _) => ?_; rotate_right; refine fun (_ : _ = true) => ?_)
        | (with_reducible refine wps_regionH ?_)
        | ((with_reducible apply wps_bindV); apply val_iteL; rotate_left; refine fun (_ : ¬ _) => ?_; rotate_right; refine fun (_ : _ = true) => ?_)
        | ((with_reducible apply val_iteL); rotate_left; refine fun (_ : ¬ _) => ?_; rotate_right; refine fun (_ : _ = true) => ?_)
        | (with_reducible exact wps_pure (ent_val rfl)))
      rw [w2]
      refine wps_ite (fun hlt0 => ?_) (fun hlt0 => ?_)
      · have hlt : m < (K + 1) * R1.ns := by simp only [decide_eq_true_eq] at hlt0; omega
        obtain ⟨t, rfl⟩ : ∃ t, m = K * R1.ns + t := ⟨m - K * R1.ns, by omega⟩
        have htn' : t < R1.ns := by rw [Nat.add_mul] at hlt; omega
        have hset := setD_at (R := R1) (k := K) (D := D) htn'
        have hat := ref_at (R := R1) (k := K) htn'
        generalize hmm : K * R1.ns + t = m at *
        have hmr : m < R1.n * R1.ns := by omega
        repeat (first
          | (with_reducible refine wps_bindpure ?_)
          | (with_reducible refine wps_assoc ?_)
          | (with_reducible refine wps_nil ?_)
          | (with_reducible refine wps_stepAlloc fun _ => ?_)
          | (with_reducible refine wps_alloc fun _ => ?_)
          | (with_reducible refine wps_newO fun _ => ?_)
          | (refine wps_ld _ (by rfl) ?_)
          | (refine wps_ldG _ _ _ (by rfl) ?_)
          | (refine wps_ldA _ (by rfl) ?_)
          | (refine wps_ldI _ (by rfl) ?_)
          | (refine wps_ldGI _ _ _ (by rfl) ?_)
          | (refine wps_ldAI _ (by rfl) ?_)
          | (refine wps_st (by simp) ?_)
          | (refine wps_stA (by simp) (by simp [Value.oneCell']) ?_)
          | ((with_reducible apply wps_val); apply val_ite; rotate_left; refine fun (_ : ¬ _) => ?_; rotate_right; refine fun (_ : _ = true) => ?_)
          | ((with_reducible apply val_ite); rotate_left; refine fun (_ : ¬ _) => ?_; rotate_right; refine fun (_ : _ = true) => ?_)
          | (with_reducible refine wps_regionH ?_)
          | ((with_reducible apply wps_bindV); apply val_iteL; rotate_left; refine fun (_ : ¬ _) => ?_; rotate_right; refine fun (_ : _ = true) => ?_)
          | ((with_reducible apply val_iteL); rotate_left; refine fun (_ : ¬ _) => ?_; rotate_right; refine fun (_ : _ = true) => ?_)
          | (with_reducible exact wps_pure (ent_val rfl)))
        have hic : m < cl.length := by omega
        refine wps_rdS m cl[m] hm (by rw [List.getElem?_map, List.getElem?_eq_getElem hic]; rfl) ?_
        have hcb : Ent (seqp cl (mix m (rcach (R1.setD K D)) (rcach R1))) (byt cl[m] (rcach R1 m)) := Ent.trans (seqp_get (List.getElem?_eq_getElem hic)) (Ent.of_eq (by simp [mix]))
        refine wps_fact (len_of (Ent.trans (ent_drop (B := seqp cl (mix m (rcach (R1.setD K D)) (rcach R1)))) hcb)) fun hclen => ?_
        have hDc : rcach (R1.setD K D) m = [] := by rw [hset.2, ← hD]; rfl
        have hDl : rlast (R1.setD K D) m = match (R1.dk K).cached (t : Int) with | some b => b | none => (R1.dk K).lasts t := by
          rw [hset.1, ← hD]
          simp only [Dk.clean, Dk.flushed]
          cases (R1.dk K).cached (t : Int) <;> rfl
        have hok := hq.ok K hkl
        refine wps_ite (fun hpos => ?_) (fun hpos => ?_)
        · have hpos' : 0 < cl[m].len := by simpa using hpos
          obtain ⟨b, hb⟩ : ∃ b, (R1.dk K).cached (t : Int) = some b := by
            cases hcc : (R1.dk K).cached (t : Int) with
            | some b => exact ⟨b, rfl⟩
            | none =>
              rw [hat.2, hcc] at hclen
              simp at hclen; omega
          have hDl' : rlast (R1.setD K D) m = rcach R1 m := by rw [hDl, hat.2, hb]; rfl
          refine wps_regionH ?_
          repeat (first
            | (with_reducible refine wps_bindpure ?_)
            | (with_reducible refine wps_assoc ?_)
            | (with_reducible refine wps_nil ?_)
            | (with_reducible refine wps_stepAlloc fun _ => ?_)
            | (with_reducible refine wps_alloc fun _ => ?_)
            | (with_reducible refine wps_newO fun _ => ?_)
            | (refine wps_ld _ (by rfl) ?_)
            | (refine wps_ldG _ _ _ (by rfl) ?_)
            | (refine wps_ldA _ (by rfl) ?_)
            | (refine wps_ldI _ (by rfl) ?_)
            | (refine wps_ldGI _ _ _ (by rfl) ?_)
            | (refine wps_ldAI _ (by rfl) ?_)
            | (refine wps_st (by simp) ?_)
            | (refine wps_stA (by simp) (by simp [Value.oneCell']) ?_)
            | ((with_reducible apply wps_val); apply val_ite; rotate_left; refine fun (_ : ¬ _) => ?_; rotate_right; refine fun (_ : _ = true) => ?_)
            | ((with_reducible apply val_ite); rotate_left; refine fun (_ : ¬ _) => ?_; rotate_right; refine fun (_ : _ = true) => ?_)
            | (with_reducible refine wps_regionH ?_)
            | ((with_reducible apply wps_bindV); apply val_iteL; rotate_left; refine fun (_ : ¬ _) => ?_; rotate_right; refine fun (_ : _ = true) => ?_)
            | ((with_reducible apply val_iteL); rotate_left; refine fun (_ : ¬ _) => ?_; rotate_right; refine fun (_ : _ = true) => ?_)
            | (with_reducible exact wps_pure (ent_val rfl)))
          refine wps_rdI m cl[m] (Ent.trans (ent_pick1 (A := own 1 l2 (cl.map vS))) (own_rsl _ _ _)) (Ent.refl _) hm (by rw [List.getElem?_map, List.getElem?_eq_getElem hic]; rfl) ?_
          refine wps_wrS m hm (by rw [hq.hl1]; exact hmr) ?_
          repeat (first
            | (with_reducible refine wps_bindpure ?_)
            | (with_reducible refine wps_assoc ?_)
            | (with_reducible refine wps_nil ?_)
            | (with_reducible refine wps_stepAlloc fun _ => ?_)
            | (with_reducible refine wps_alloc fun _ => ?_)
            | (with_reducible refine wps_newO fun _ => ?_)
            | (refine wps_ld _ (by rfl) ?_)
            | (refine wps_ldG _ _ _ (by rfl) ?_)
            | (refine wps_ldA _ (by rfl) ?_)
            | (refine wps_ldI _ (by rfl) ?_)
            | (refine wps_ldGI _ _ _ (by rfl) ?_)
            | (refine wps_ldAI _ (by rfl) ?_)
            | (refine wps_st (by simp) ?_)
            | (refine wps_stA (by simp) (by simp [Value.oneCell']) ?_)
            | ((with_reducible apply wps_val); apply val_ite; rotate_left; refine fun (_ : ¬ _) => ?_; rotate_right; refine fun (_ : _ = true) => ?_)
            | ((with_reducible apply val_ite); rotate_left; refine fun (_ : ¬ _) => ?_; rotate_right; refine fun (_ : _ = true) => ?_)
            | (with_reducible refine wps_regionH ?_)
            | ((with_reducible apply wps_bindV); apply val_iteL; rotate_left; refine fun (_ : ¬ _) => ?_; rotate_right; refine fun (_ : _ = true) => ?_)
            | ((with_reducible apply val_iteL); rotate_left; refine fun (_ : ¬ _) => ?_; rotate_right; refine fun (_ : _ = true) => ?_)
            | (with_reducible exact wps_pure (ent_val rfl)))
          refine wps_wrS m hm (by rw [hq.hl2]; exact hmr) (wps_pure ?_)
          refine ent_prr (by rw [range_add1 hm (by omega)]; omega) (ent_ex (m + 1) (ent_ex (sl.set m cl[m]) (ent_ex (cl.set m nilS) ?_)))
          refine ent_pick (ent_pick (ent_pick (ent_pickS (by rw [List.map_set]; rfl) (ent_pickS (by rw [List.map_set]; rfl) ?_))))
          refine Ent.trans (B := seqp sl (mix m (rlast (R1.setD K D)) (rlast R1)) * seqp cl (mix m (rcach (R1.setD K D)) (rcach R1))) (by exact ent_pick (ent_pick (ent_emp _)) |> fun h => by rw [emp_star] at h; exact h) ?_
          refine ent_and ?_ ?_
          · refine ent_prr ⟨range_add1 hm (by omega), by omega, by omega, by simpa using hsl, by simpa using hcl⟩ (seqp_mix (ent_left _ _) (Ent.trans (ent_right _ _) (Ent.trans hcb (Ent.of_eq (by rw [hDl'])))))
          · exact seqp_mix (ent_right _ _) (Ent.trans (ent_emp _) (by rw [hDc]; exact rsl_nil 1))
        · have hpos' : cl[m].len = 0 := by
            have : ¬ 0 < cl[m].len := by simpa using hpos
            omega
          have hnone : (R1.dk K).cached (t : Int) = none := by
            cases hcc : (R1.dk K).cached (t : Int) with
            | none => rfl
            | some b =>
              rw [hat.2, hcc] at hclen
              have := (hok.2 _ b hcc).1
              simp at hclen; omega
          refine wps_pure ?_
          refine ent_prr (by rw [range_add1 hm (by omega)]; omega) (ent_ex (m + 1) (ent_ex sl (ent_ex cl ?_)))
          refine ent_swap (A := seqp sl (mix m (rlast (R1.setD K D)) (rlast R1))) (seqp_mixs (by rw [hDl, hnone, hat.1])) ?_
          refine ent_swap (A := seqp cl (mix m (rcach (R1.setD K D)) (rcach R1))) (seqp_mixs (by rw [hDc, hat.2, hnone]; rfl)) ?_
          repeat (first
            | (with_reducible exact ent_drop)
            | (with_reducible refine ent_pick ?_)
            | (refine ent_pickC (by rfl) ?_)
            | (refine ent_pickS (by rfl) ?_)
            | (refine ent_pickM (by rfl) ?_)
            | (refine ent_prx ?_ ?_; rotate_left)
            | (refine ent_prq ?_))
          exact ⟨range_add1 hm (by omega), by omega, by omega, hsl, hcl⟩
      · have hme : m = (K + 1) * R1.ns := by simp only [decide_eq_true_eq] at hlt0; omega
        refine wps_mapR (wps_pure ?_)
        refine ent_exr sl ?_
        refine ent_exr cl ?_
        refine ent_exr cs ?_
        simp only [← star_assoc]
        have hns0 : 0 < R1.ns := by omega
        have hfd : D.failed = (R1.dk K).failed := by rw [← hD]; rfl
        rw [bads_setD hfd]
        refine ent_swap (A := seqp sl (mix m (rlast (R1.setD K D)) (rlast R1))) (B := seqp sl (rlast (R1.setD K D))) (seqp_ext fun i _ => ?_) ?_
        · simp only [mix]; split
          · rfl
          · rename_i h; exact ((setD_other (after_k (by omega) hns0)).1).symm
        refine ent_swap (A := seqp cl (mix m (rcach (R1.setD K D)) (rcach R1))) (B := seqp cl (rcach (R1.setD K D))) (seqp_ext fun i _ => ?_) ?_
        · simp only [mix]; split
          · rfl
          · rename_i h; exact ((setD_other (after_k (by omega) hns0)).2).symm
        refine ent_pickC (by rfl) ?_
        repeat (first
          | (with_reducible exact ent_drop)
          | (with_reducible refine ent_pick ?_)
          | (refine ent_pickC (by rfl) ?_)
          | (refine ent_pickS (by rfl) ?_)
          | (refine ent_pickM (by rfl) ?_)
          | (refine ent_prx ?_ ?_; rotate_left)
          | (refine ent_prq ?_))
        all_goals first | trivial | skip
        refine hq.setD (fun _ => ?_) hfd (by rw [← hD]; rfl) hsl hcl
        rw [← hD]
        exact ⟨(Dk.ok_flushed (hq.ok K hkl) fun _ => true).1, fun j b h => by cases h⟩
end Go.Proofs.Ytldmeimebebllaa
namespace Go.Proofs.Ytldmeimebebllaa
open Go.Mo
set_option linter.unusedVariables false
variable {g : Fr} {cv : CV}
theorem flat_split {i ns : Nat} : i = i / ns * ns + i % ns := by rw [Nat.mul_comm]; exact (Nat.div_add_mod i ns).symm
theorem restore_rlast (R : Rk) (ks : List Int) (i : Nat) : rlast (R.restore ks) i = (match (R.dk (i / R.ns)).cached ((i % R.ns : Nat) : Int) with | some b => if (keepB ks (rank R i) && !(R.dk (i / R.ns)).failed) = true then b else rlast R i | none => rlast R i) := by
  show (Dk.restored R ks (i / R.ns)).lasts (i % R.ns) = _
  simp only [Dk.restored, Dk.clean, Dk.flushed]
  cases (R.dk (i / R.ns)).cached ((i % R.ns : Nat) : Int) with
  | none => rfl
  | some b =>
    simp only [Int.toNat_natCast]
    simp only [(flat_split (i := i) (ns := R.ns)).symm]; rfl
theorem restore_rcach (R : Rk) (ks : List Int) (i : Nat) : rcach (R.restore ks) i = [] := rfl
theorem rank_next (R : Rk) (i : Nat) : rank R (i + 1) = rank R i + if isC R i = true then 1 else 0 := by
  unfold rank
  rw [List.range_succ, List.filter_append, List.length_append, List.filter_cons]
  split <;> simp
theorem ref02_Restore_spec {H : HP} (mb : Nat) (R : Rk) (l1 l2 l3 l4 : Slc) (x : Slc) (ks : List Int) (hx : Ent H (intsP x ks)) :
    wps g (H * refQ mb R l1 l2 l3 l4) (ref02_Rack_Restore (ptr mb) x) (fun _ => H * refQ mb (R.restore ks) l1 l2 l3 l4) := by
  unfold ref02_Rack_Restore
  refine wps_fact (Ent.trans (ent_left _ _) (ilen_of hx)) fun hl => ?_
  unfold refQ
  refine wps_exr fun sl => wps_exr fun cl => wps_exr fun cs => ?_
  unfold refX4
  simp only [← star_assoc]
  refine wps_factP fun hq => ?_
  have hNS : R.n * R.ns ≤ 17 * 4096 := Nat.mul_le_mul hq.n17 hq.ns4
  repeat (first
    | (with_reducible refine wps_bindpure ?_)
    | (with_reducible refine wps_assoc ?_)
    | (with_reducible refine wps_nil ?_)
    | (with_reducible refine wps_stepAlloc fun _ => ?_)
    | (with_reducible refine wps_alloc fun _ => ?_)
    | (with_reducible refine wps_newO fun _ => ?_)
    | (refine wps_ld _ (by rfl) ?_)
    | (refine wps_ldG _ _ _ (by rfl) ?_)
    | (refine wps_ldA _ (by rfl) ?_)
    | (refine wps_ldI _ (by rfl) ?_)
    | (refine wps_ldGI _ _ _ (by rfl) ?_)
    | (refine wps_ldAI _ (by rfl) ?_)
    | (refine wps_st (by simp) ?_)
    | (refine wps_stA (by simp) (by simp [Value.oneCell']) ?_)
    | ((with_reducible apply wps_val); apply val_ite; rotate_left; refine fun (_ : ¬ _) => ?_; rotate_right; refine fun (_ : _ = true) => ?_)
    | ((with_reducible apply val_ite); rotate_left; refine fun (_ : ¬ _) => ?_; rotate_right; refine fun (_ : _ = true) => ?_)
    | (with_reducible refine wps_regionH ?_)
    | ((with_reducible apply wps_bindV); apply val_iteL; rotate_left; refine fun (_ : ¬ _) => ?_; rotate_right; refine fun (_ : _ = true) => ?_)
    | ((with_reducible apply val_iteL); rotate_left; refine fun (_ : ¬ _) => ?_; rotate_right; refine fun (_ : _ = true) => ?_)
    | (with_reducible exact wps_pure (ent_val rfl)))
  refine wps_loop (fun s => ex fun m : Nat => ex fun sl : List Slc => ex fun cl : List Slc => pr (s.2 = (m : Int) ∧ m ≤ R.n * R.ns ∧ s.1 = ((rank R m : Nat) : Int) ∧ sl.length = R.n * R.ns ∧ cl.length = R.n * R.ns) * H * seqp sl (mix m (rlast (R.restore ks)) (rlast R)) * seqp cl (mix m (rcach (R.restore ks)) (rcach R)) * own 1 l1 (sl.map vS) * own 1 l2 (cl.map vS) * own 1 l3 (bads R) * own 1 l4 (zv cs) * pc mb [.int .i64 R.n, .int .i64 R.ns, vS l1, vS l2, vS l3, vS l4, .int .i64 (-1), .bool false]) (fun s => ((R.n * R.ns : Nat) - s.2).toNat) ?_ fun s => ?_
  · refine ent_ex 0 (ent_ex sl (ent_ex cl ?_))
    have e1 : mix 0 (rlast (R.restore ks)) (rlast R) = rlast R := by funext i; simp [mix]
    have e2 : mix 0 (rcach (R.restore ks)) (rcach R) = rcach R := by funext i; simp [mix]
    rw [e1, e2]
    refine ent_pickC (by rfl) ?_
    repeat (first
      | (with_reducible exact ent_drop)
      | (with_reducible refine ent_pick ?_)
      | (refine ent_pickC (by rfl) ?_)
      | (refine ent_pickS (by rfl) ?_)
      | (refine ent_pickM (by rfl) ?_)
      | (refine ent_prx ?_ ?_; rotate_left)
      | (refine ent_prq ?_))
    all_goals first | exact ⟨rfl, by omega, by simp [rank], hq.hsl, hq.hcl⟩ | trivial
  · refine wps_ex fun m => wps_ex fun sl => wps_ex fun cl => wps_prP fun ⟨hm, hmn, hs1, hsl, hcl⟩ => ?_
    repeat (first
      | (with_reducible refine wps_bindpure ?_)
      | (with_reducible refine wps_assoc ?_)
      | (with_reducible refine wps_nil ?_)
      | (with_reducible refine wps_stepAlloc fun _ => ?_)
      | (with_reducible refine wps_alloc fun _ => ?_)
      | (with_reducible refine wps_newO fun _ => ?_)
      | (refine wps_ld _ (by rfl) ?_)
      | (refine wps_ldG _ _ _ (by rfl) ?_)
      | (refine wps_ldA _ (by rfl) ?_)
      | (refine wps_ldI _ (by rfl) ?_)
      | (refine wps_ldGI _ _ _ (by rfl) ?_)
      | (refine wps_ldAI _ (by rfl) ?_)
      | (refine wps_st (by simp) ?_)
      | (refine wps_stA (by simp) (by simp [Value.oneCell']) ?_)
      | ((with_reducible apply wps_val); apply val_ite; rotate_left; refine fun (_ : ¬ _) => ?_; rotate_right; refine fun (_ : _ = true) => ?_)
      | ((with_reducible apply val_ite); rotate_left; refine fun (_ : ¬ _) => ?_; rotate_right; refine fun (_ : _ = true) => ?_)
      | (with_reducible refine wps_regionH ?_)
      | ((with_reducible apply wps_bindV); apply val_iteL; rotate_left; refine fun (_ : ¬ _) => ?_; rotate_right; refine fun (_ : _ = true) => ?_)
      | ((with_reducible apply val_iteL); rotate_left; refine fun (_ : ¬ _) => ?_; rotate_right; refine fun (_ : _ = true) => ?_)
      | (with_reducible exact wps_pure (ent_val rfl)))
    refine wps_ite (fun hc => ?_) (fun hc => ?_)
    · have hlt : m < R.n * R.ns := by
        have := hq.hl2
        simp only [decide_eq_true_eq] at hc; omega
      have hns0 : 0 < R.ns := Nat.pos_of_ne_zero fun h0 => by rw [h0] at hlt; omega
      have hkn : m / R.ns < R.n := (Nat.div_lt_iff_lt_mul hns0).2 hlt
      have htn : m % R.ns < R.ns := Nat.mod_lt _ hns0
      have hrk := rank_le R m
      have hok := hq.ok _ hkn
      repeat (first
        | (with_reducible refine wps_bindpure ?_)
        | (with_reducible refine wps_assoc ?_)
        | (with_reducible refine wps_nil ?_)
        | (with_reducible refine wps_stepAlloc fun _ => ?_)
        | (with_reducible refine wps_alloc fun _ => ?_)
        | (with_reducible refine wps_newO fun _ => ?_)
        | (refine wps_ld _ (by rfl) ?_)
        | (refine wps_ldG _ _ _ (by rfl) ?_)
        | (refine wps_ldA _ (by rfl) ?_)
        | (refine wps_ldI _ (by rfl) ?_)
        | (refine wps_ldGI _ _ _ (by rfl) ?_)
        | (refine wps_ldAI _ (by rfl) ?_)
        | (refine wps_st (by simp) ?_)
        | (refine wps_stA (by simp) (by simp [Value.oneCell']) ?_)
        | (with_reducible refine wps_regionH ?_)
        | (with_reducible exact wps_pure (ent_val rfl)))
      have hic : m < cl.length := by omega
      refine wps_rdS m cl[m] hm (by rw [List.getElem?_map, List.getElem?_eq_getElem hic]; rfl) ?_
      have hcb : Ent (seqp cl (mix m (rcach (R.restore ks)) (rcach R))) (byt cl[m] (rcach R m)) := Ent.trans (seqp_get (List.getElem?_eq_getElem hic)) (Ent.of_eq (by simp [mix]))
      refine wps_fact (len_of (Ent.trans (ent_drop (B := seqp cl (mix m (rcach (R.restore ks)) (rcach R)))) hcb)) fun hclen => ?_
      have hDl := restore_rlast R ks m
      have hnext := rank_next R m
      have hrc : rcach R m = ((R.dk (m / R.ns)).cached ((m % R.ns : Nat) : Int)).getD [] := rfl
      refine wps_ite (fun hz => ?_) (fun hz => ?_)
      · have hz' : cl[m].len = 0 := by
          have : ((cl[m].len : Nat) : Int) = 0 := by simpa using hz
          omega
        have hnone : (R.dk (m / R.ns)).cached ((m % R.ns : Nat) : Int) = none := by
          cases hcc : (R.dk (m / R.ns)).cached ((m % R.ns : Nat) : Int) with
          | none => rfl
          | some b =>
            rw [hrc, hcc] at hclen
            have := (hok.2 _ b hcc).1
            simp at hclen; omega
        have hnc : isC R m = false := by rw [isC, hnone]; rfl
        rw [hnc] at hnext
        refine wps_pure ?_
        refine ent_prr (by (try dsimp only); rw [range_add1 hm (by omega)]; omega) (ent_ex (m + 1) (ent_ex sl (ent_ex cl ?_)))
        refine ent_swap (A := seqp sl (mix m (rlast (R.restore ks)) (rlast R))) (seqp_mixs (by rw [hDl, hnone])) ?_
        refine ent_swap (A := seqp cl (mix m (rcach (R.restore ks)) (rcach R))) (seqp_mixs (by rw [restore_rcach, hrc, hnone]; rfl)) ?_
        repeat (first
          | (with_reducible exact ent_drop)
          | (with_reducible refine ent_pick ?_)
          | (refine ent_pickC (by rfl) ?_)
          | (refine ent_pickS (by rfl) ?_)
          | (refine ent_pickM (by rfl) ?_)
          | (refine ent_prx ?_ ?_; rotate_left)
          | (refine ent_prq ?_))
        all_goals first | exact ⟨range_add1 hm (by omega), by omega, by rw [hnext]; exact hs1, hsl, hcl⟩ | trivial
      · have hz' : 0 < cl[m].len := by
          have : ¬ ((cl[m].len : Nat) : Int) = 0 := by simpa using hz
          omega
        obtain ⟨b, hb⟩ : ∃ b, (R.dk (m / R.ns)).cached ((m % R.ns : Nat) : Int) = some b := by
          cases hcc : (R.dk (m / R.ns)).cached ((m % R.ns : Nat) : Int) with
          | some b => exact ⟨b, rfl⟩
          | none =>
            rw [hrc, hcc] at hclen
            simp at hclen; omega
        have hnc : isC R m = true := by rw [isC, hb]; rfl
        rw [hnc] at hnext
        have hrcb : rcach R m = b := by rw [hrc, hb]; rfl
        rw [hb] at hDl
        simp only at hDl
        generalize hN : rank R m = N at *
        refine wps_bindV (u := keepB ks N && !(R.dk (m / R.ns)).failed) ?_ ?_
        · refine wps_regionH ?_
          refine wps_ite (fun hx0 => ?_) (fun hx0 => ?_)
          · have hx0' : 0 < x.len := by simp only [decide_eq_true_eq] at hx0; omega
            refine wps_assert (by omega) ?_
            have hlt2 : N % ks.length < ks.length := Nat.mod_lt _ (by omega)
            have hmod : Int.tmod s.1 (x.len : Int) = ((N % ks.length : Nat) : Int) := by
              rw [hs1, ← hl]; rfl
            refine wps_rdI (N % ks.length) (ks.getD (N % ks.length) 0) (Ent.trans (ent_drop (B := H)) hx) (Ent.refl _) hmod ?_ ?_
            · simp [zv, List.getD_eq_getElem?_getD, List.getElem?_eq_getElem hlt2]
            have hkb : keepB ks N = (bAnd .i64 (ks.getD (N % ks.length) 0) 1 == 1) := by rw [keepB, if_neg (by omega)]
            refine wps_ite (fun hk => ?_) (fun hk => wps_pure (ent_val ?_))
            · repeat (first
                | (with_reducible refine wps_bindpure ?_)
                | (with_reducible refine wps_assoc ?_)
                | (with_reducible refine wps_nil ?_)
                | (with_reducible refine wps_stepAlloc fun _ => ?_)
                | (with_reducible refine wps_alloc fun _ => ?_)
                | (with_reducible refine wps_newO fun _ => ?_)
                | (refine wps_ld _ (by rfl) ?_)
                | (refine wps_ldG _ _ _ (by rfl) ?_)
                | (refine wps_ldA _ (by rfl) ?_)
                | (refine wps_ldI _ (by rfl) ?_)
                | (refine wps_ldGI _ _ _ (by rfl) ?_)
                | (refine wps_ldAI _ (by rfl) ?_)
                | (refine wps_st (by simp) ?_)
                | (refine wps_stA (by simp) (by simp [Value.oneCell']) ?_)
                | (with_reducible refine wps_regionH ?_)
                | (with_reducible exact wps_pure (ent_val rfl)))
              refine wps_assert (by omega) ?_
              have hdiv : w64 (Int.tdiv s.2 (R.ns : Int)) = ((m / R.ns : Nat) : Int) := by
                have h1 : ∀ q : Nat, q ≤ m → w64 (q : Int) = (q : Int) := fun q h => w64_id (by omega) (by omega)
                rw [hm, show Int.tdiv (m : Int) (R.ns : Int) = ((m / R.ns : Nat) : Int) from rfl]
                exact h1 _ (Nat.div_le_self _ _)
              refine wps_rdI (m / R.ns) (R.dk (m / R.ns)).failed (Ent.trans (ent_pick1 (A := own 1 l3 (bads R))) (own_rsl _ _ _)) (Ent.refl _) hdiv (by rw [bads, List.getElem?_map, List.getElem?_range hkn]; rfl) ?_
              exact wps_pure (ent_val (by rw [hkb, hk]; simp))
            · rw [hkb]; simp only [Bool.not_eq_true] at hk; rw [hk]; rfl
          · have hx0' : x.len = 0 := by simp only [decide_eq_true_eq] at hx0; omega
            refine wps_pure (ent_val ?_)
            rw [keepB, if_pos (by omega)]; rfl
        · refine wps_bindS (R := fun _ => ex fun sl' : List Slc => pr (sl'.length = R.n * R.ns) * H * seqp sl' (mix (m + 1) (rlast (R.restore ks)) (rlast R)) * seqp cl (mix m (rcach (R.restore ks)) (rcach R)) * own 1 l1 (sl'.map vS) * own 1 l2 (cl.map vS) * own 1 l3 (bads R) * own 1 l4 (zv cs) * pc mb [.int .i64 R.n, .int .i64 R.ns, vS l1, vS l2, vS l3, vS l4, .int .i64 (-1), .bool false]) ?_ fun _ => ?_
          · refine wps_ite (fun hk => ?_) (fun hk => ?_)
            · refine wps_regionH ?_
              repeat (first
                | (with_reducible refine wps_bindpure ?_)
                | (with_reducible refine wps_assoc ?_)
                | (with_reducible refine wps_nil ?_)
                | (with_reducible refine wps_stepAlloc fun _ => ?_)
                | (with_reducible refine wps_alloc fun _ => ?_)
                | (with_reducible refine wps_newO fun _ => ?_)
                | (refine wps_ld _ (by rfl) ?_)
                | (refine wps_ldG _ _ _ (by rfl) ?_)
                | (refine wps_ldA _ (by rfl) ?_)
                | (refine wps_ldI _ (by rfl) ?_)
                | (refine wps_ldGI _ _ _ (by rfl) ?_)
                | (refine wps_ldAI _ (by rfl) ?_)
                | (refine wps_st (by simp) ?_)
                | (refine wps_stA (by simp) (by simp [Value.oneCell']) ?_)
                | (with_reducible refine wps_regionH ?_)
                | (with_reducible exact wps_pure (ent_val rfl)))
              refine wps_rdI m cl[m] (Ent.trans (ent_pick1 (A := own 1 l2 (cl.map vS))) (own_rsl _ _ _)) (Ent.refl _) hm (by rw [List.getElem?_map, List.getElem?_eq_getElem hic]; rfl) ?_
              refine wps_wrS m hm (by rw [hq.hl1]; exact hlt) (wps_pure ?_)
              rw [if_pos hk] at hDl
              refine ent_ex (sl.set m cl[m]) ?_
              refine ent_pick (ent_pick (ent_pick (ent_pick (ent_pickS (by rw [List.map_set]; rfl) ?_))))
              refine Ent.trans (B := H * (seqp sl (mix m (rlast (R.restore ks)) (rlast R)) * seqp cl (mix m (rcach (R.restore ks)) (rcach R)))) (Ent.of_eq (by simp only [← star_assoc, emp_star])) ?_
              refine Ent.trans (Ent.starr (ent_and (B := seqp (sl.set m cl[m]) (mix (m + 1) (rlast (R.restore ks)) (rlast R))) (C := seqp cl (mix m (rcach (R.restore ks)) (rcach R))) (seqp_mix (ent_left _ _) (Ent.trans (ent_right _ _) (Ent.trans hcb (Ent.of_eq (by rw [hDl, hrcb]))))) (ent_right _ _))) ?_
              simp only [← star_assoc]
              repeat (first
                | (with_reducible exact ent_drop)
                | (with_reducible refine ent_pick ?_)
                | (refine ent_pickC (by rfl) ?_)
                | (refine ent_pickS (by rfl) ?_)
                | (refine ent_pickM (by rfl) ?_)
                | (refine ent_prx ?_ ?_; rotate_left)
                | (refine ent_prq ?_))
              all_goals first | simpa using hsl | trivial
            · rw [if_neg hk] at hDl
              refine wps_pure (ent_ex sl ?_)
              refine ent_swap (A := seqp sl (mix m (rlast (R.restore ks)) (rlast R))) (seqp_mixs hDl) ?_
              repeat (first
                | (with_reducible exact ent_drop)
                | (with_reducible refine ent_pick ?_)
                | (refine ent_pickC (by rfl) ?_)
                | (refine ent_pickS (by rfl) ?_)
                | (refine ent_pickM (by rfl) ?_)
                | (refine ent_prx ?_ ?_; rotate_left)
                | (refine ent_prq ?_))
              all_goals first | exact hsl | trivial
          · refine wps_ex fun sl' => wps_prP fun hsl' => ?_
            repeat (first
              | (with_reducible refine wps_bindpure ?_)
              | (with_reducible refine wps_assoc ?_)
              | (with_reducible refine wps_nil ?_)
              | (with_reducible refine wps_stepAlloc fun _ => ?_)
              | (with_reducible refine wps_alloc fun _ => ?_)
              | (with_reducible refine wps_newO fun _ => ?_)
              | (refine wps_ld _ (by rfl) ?_)
              | (refine wps_ldG _ _ _ (by rfl) ?_)
              | (refine wps_ldA _ (by rfl) ?_)
              | (refine wps_ldI _ (by rfl) ?_)
              | (refine wps_ldGI _ _ _ (by rfl) ?_)
              | (refine wps_ldAI _ (by rfl) ?_)
              | (refine wps_st (by simp) ?_)
              | (refine wps_stA (by simp) (by simp [Value.oneCell']) ?_)
              | (with_reducible refine wps_regionH ?_)
              | (with_reducible exact wps_pure (ent_val rfl)))
            refine wps_wrS m hm (by rw [hq.hl2]; exact hlt) (wps_pure ?_)
            refine ent_prr (by (try dsimp only); rw [range_add1 hm (by omega)]; omega) (ent_ex (m + 1) (ent_ex sl' (ent_ex (cl.set m nilS) ?_)))
            refine ent_pick (ent_pick (ent_pick (ent_pickS (by rw [List.map_set]; rfl) (ent_pick ?_))))
            refine ent_swap (A := seqp cl (mix m (rcach (R.restore ks)) (rcach R))) (B := seqp (cl.set m nilS) (mix (m + 1) (rcach (R.restore ks)) (rcach R))) (seqp_mix (Ent.refl _) (Ent.trans (ent_emp _) (by rw [restore_rcach]; exact rsl_nil 1))) ?_
            repeat (first
              | (with_reducible exact ent_drop)
              | (with_reducible refine ent_pick ?_)
              | (refine ent_pickC (by rfl) ?_)
              | (refine ent_pickS (by rfl) ?_)
              | (refine ent_pickM (by rfl) ?_)
              | (refine ent_prx ?_ ?_; rotate_left)
              | (refine ent_prq ?_))
            all_goals first | exact ⟨range_add1 hm (by omega), by omega, by rw [hnext]; exact range_add1 hs1 (by omega), hsl', by simpa using hcl⟩ | trivial
    · have hme : m = R.n * R.ns := by
        have := hq.hl2
        simp only [decide_eq_true_eq] at hc; omega
      refine wps_mapR (wps_pure ?_)
      refine ent_exr sl ?_
      refine ent_exr cl ?_
      refine ent_exr cs ?_
      simp only [← star_assoc]
      have e1 : Ent (seqp sl (mix m (rlast (R.restore ks)) (rlast R))) (seqp sl (rlast (R.restore ks))) := seqp_ext fun i hi => by
        simp only [mix]; rw [if_pos (by omega)]
      have e2 : Ent (seqp cl (mix m (rcach (R.restore ks)) (rcach R))) (seqp cl (rcach (R.restore ks))) := seqp_ext fun i hi => by
        simp only [mix]; rw [if_pos (by omega)]
      refine ent_swap (A := seqp sl (mix m (rlast (R.restore ks)) (rlast R))) e1 ?_
      refine ent_swap (A := seqp cl (mix m (rcach (R.restore ks)) (rcach R))) e2 ?_
      have e3 : bads (R.restore ks) = bads R := rfl
      rw [e3]
      refine ent_pickC (by rfl) ?_
      repeat (first
        | (with_reducible exact ent_drop)
        | (with_reducible refine ent_pick ?_)
        | (refine ent_pickC (by rfl) ?_)
        | (refine ent_pickS (by rfl) ?_)
        | (refine ent_pickM (by rfl) ?_)
        | (refine ent_prx ?_ ?_; rotate_left)
        | (refine ent_prq ?_))
      all_goals first | trivial | skip
      exact ⟨hsl, hcl, hq.hcs, hq.n17, hq.ns4, hq.hl1, hq.hl2, hq.hl3, hq.hl4, fun j hj => ⟨(Dk.ok_flushed (hq.ok j hj) fun k => keepB ks (rank R (j * R.ns + k.toNat)) && !(R.dk j).failed).1, fun q b h => by cases h⟩, hq.cnt, ⟨by show -1 ≤ (-1 : Int) ∧ (-1 : Int) < _; omega, hq.cok.dks⟩⟩
end Go.Proofs.Ytldmeimebebllaa
namespace Go.Proofs.Ytldmeimebebllaa
open Go.Mo
set_option linter.unusedVariables false
variable {g : Fr} {cv : CV}
def upTo (im : List Int) (k t : Nat) : List Value := (List.range 64).map fun i => .int .u8 (if i < t then im.getD (k * 64 + i) 0 else 0)
theorem upTo_end {im : List Int} {k t : Nat} (h : t = 64 ∨ im.length ≤ k * 64 + t) : upTo im k t = bv (secOf im k) := by
  simp only [upTo, bv, secOf, List.map_map]
  apply List.map_congr_left
  intro i hi
  have hi := List.mem_range.1 hi
  show Value.int .u8 _ = Value.int .u8 _
  by_cases h' : i < t
  · rw [if_pos h']
  · simp only [if_neg h', List.getD_eq_getElem?_getD]
    rw [List.getElem?_eq_none (by omega)]; rfl
theorem upTo_set (im : List Int) (k : Nat) {t : Nat} (h : t < 64) : (upTo im k t).set t (.int .u8 (im.getD (k * 64 + t) 0)) = upTo im k (t + 1) := by
  apply List.ext_getElem?
  intro i
  rw [List.getElem?_set]
  simp only [upTo, List.getElem?_map, List.length_map, List.length_range]
  by_cases hi : i < 64
  · rw [List.getElem?_range hi]
    by_cases e : t = i
    · subst e; simp [h]
    · have : i < t + 1 ↔ i < t := by omega
      simp [e, this]
  · rw [List.getElem?_eq_none (by simpa using hi)]
    have : ¬ t = i := by omega
    simp [this]
theorem ref02_Load_spec {H : HP} (mb : Nat) (R : Rk) (l1 l2 l3 l4 : Slc) (k : Int) (x : Slc) (im : List Int) (hx : Ent H (byt x im)) (him : im.length ≤ 1099511627776) :
    wps g (H * refQ mb R l1 l2 l3 l4) (ref02_Rack_Load (ptr mb) k x) (fun e => pr (e = if k < 0 ∨ k ≥ R.n then 11 else 0) * H * refQ mb (R.load k im) l1 l2 l3 l4) := by
  unfold ref02_Rack_Load
  refine wps_fact (Ent.trans (ent_left _ _) (len_of hx)) fun hl => ?_
  unfold refQ
  refine wps_exr fun sl => wps_exr fun cl => wps_exr fun cs => ?_
  unfold refX4
  simp only [← star_assoc]
  refine wps_factP fun hq => ?_
  refine wps_val (v := decide (k < 0 ∨ k ≥ R.n)) ?_ ?_
  · apply val_eq
    · repeat (first
        | (with_reducible refine wps_bindpure ?_)
        | (with_reducible refine wps_assoc ?_)
        | (with_reducible refine wps_nil ?_)
        | (with_reducible refine wps_stepAlloc fun _ => ?_)
        | (with_reducible refine wps_alloc fun _ => ?_)
        | (with_reducible refine wps_newO fun _ => ?_)
        | (refine wps_ld _ (by rfl) ?_)
        | (refine wps_ldG _ _ _ (by rfl) ?_)
        | (refine wps_ldA _ (by rfl) ?_)
        | (refine wps_ldI _ (by rfl) ?_)
        | (refine wps_ldGI _ _ _ (by rfl) ?_)
        | (refine wps_ldAI _ (by rfl) ?_)
        | (refine wps_st (by simp) ?_)
        | (refine wps_stA (by simp) (by simp [Value.oneCell']) ?_)
        | ((with_reducible apply wps_val); apply val_ite; rotate_left; refine fun (_ : ¬ _) => ?_; rotate_right; refine fun (_ : _ = true) => ?_)
        | ((with_reducible apply val_ite); rotate_left; refine fun (_ : ¬ _) => ?_; rotate_right; refine fun (_ : _ = true) => ?_)
        | (with_reducible refine wps_regionH ?_)
        | ((with_reducible apply wps_bindV); apply val_iteL; rotate_left; refine fun (_ : ¬ _) => ?_; rotate_right; refine fun (_ : _ = true) => ?_)
        | ((with_reducible apply val_iteL); rotate_left; refine fun (_ : ¬ _) => ?_; rotate_right; refine fun (_ : _ = true) => ?_)
        | (with_reducible exact wps_pure (ent_val rfl)))
    · by_cases h : k < 0 <;> by_cases h' : k ≥ (R.n : Int) <;> simp [h, h']
  by_cases hk : k < 0 ∨ k ≥ R.n
  · rw [if_pos hk, Rk.load, if_pos hk]
    refine wps_ite (fun _ => wps_pure ?_) (fun h => absurd (by simpa using hk) h)
    refine ent_exr sl ?_
    refine ent_exr cl ?_
    refine ent_exr cs ?_
    simp only [← star_assoc]
    repeat (first
      | (with_reducible exact ent_drop)
      | (with_reducible refine ent_pick ?_)
      | (refine ent_pickC (by rfl) ?_)
      | (refine ent_pickS (by rfl) ?_)
      | (refine ent_pickM (by rfl) ?_)
      | (refine ent_prx ?_ ?_; rotate_left)
      | (refine ent_prq ?_))
    all_goals first | exact hq | trivial
  · rw [if_neg hk, Rk.load, if_neg hk]
    refine wps_ite (fun h => absurd (by simpa using h) hk) (fun _ => ?_)
    have hk2 : 0 ≤ k ∧ k < R.n := by omega
    have hkl : k.toNat < R.n := by omega
    obtain ⟨w1, w2, w3, w4⟩ := hq.flat hk2
    have hns4 := hq.ns4
    have w5 : ∀ t : Nat, t < R.ns → w64 (w64 (k * (R.ns : Int)) + (t : Int)) = ((k.toNat * R.ns + t : Nat) : Int) := by
      intro t ht
      have := flat_w (s := (t : Int)) hk2 (by omega) hq.n17 hns4
      simpa using this
    generalize k.toNat = K at *
    generalize hD : (R.dk K).load im = D at *
    have hDl : ∀ t, D.lasts t = secOf im t := fun t => by rw [← hD]; rfl
    have hDc : ∀ t, D.cached t = none := fun t => by rw [← hD]; rfl
    refine wps_loop (fun s => ex fun t : Nat => ex fun sl : List Slc => ex fun cl : List Slc => pr (s = (t : Int) ∧ t ≤ R.ns ∧ sl.length = R.n * R.ns ∧ cl.length = R.n * R.ns) * H * seqp sl (mix (K * R.ns + t) (rlast (R.setD K D)) (rlast R)) * seqp cl (mix (K * R.ns + t) (rcach (R.setD K D)) (rcach R)) * own 1 l1 (sl.map vS) * own 1 l2 (cl.map vS) * own 1 l3 (bads R) * own 1 l4 (zv cs) * pc mb [.int .i64 R.n, .int .i64 R.ns, vS l1, vS l2, vS l3, vS l4, .int .i64 R.count, .bool R.off]) (fun s => (R.ns - s).toNat) ?_ fun s => ?_
    · refine ent_ex 0 (ent_ex sl (ent_ex cl ?_))
      refine ent_swap (A := seqp sl (rlast R)) (B := seqp sl (mix (K * R.ns + 0) (rlast (R.setD K D)) (rlast R))) (seqp_ext fun i _ => ?_) ?_
      · simp only [mix]; split
        · rename_i h; exact ((setD_other (before_k h)).1).symm
        · rfl
      refine ent_swap (A := seqp cl (rcach R)) (B := seqp cl (mix (K * R.ns + 0) (rcach (R.setD K D)) (rcach R))) (seqp_ext fun i _ => ?_) ?_
      · simp only [mix]; split
        · rename_i h; exact ((setD_other (before_k h)).2).symm
        · rfl
      repeat (first
        | (with_reducible exact ent_drop)
        | (with_reducible refine ent_pick ?_)
        | (refine ent_pickC (by rfl) ?_)
        | (refine ent_pickS (by rfl) ?_)
        | (refine ent_pickM (by rfl) ?_)
        | (refine ent_prx ?_ ?_; rotate_left)
        | (refine ent_prq ?_))
      all_goals first | exact ⟨rfl, by omega, hq.hsl, hq.hcl⟩ | trivial
    · refine wps_ex fun t => wps_ex fun sl => wps_ex fun cl => wps_prP fun ⟨hs, ht, hsl, hcl⟩ => ?_
      repeat (first
        | (with_reducible refine wps_bindpure ?_)
        | (with_reducible refine wps_assoc ?_)
        | (with_reducible refine wps_nil ?_)
        | (with_reducible refine wps_stepAlloc fun _ => ?_)
        | (with_reducible refine wps_alloc fun _ => ?_)
        | (with_reducible refine wps_newO fun _ => ?_)
        | (refine wps_ld _ (by rfl) ?_)
        | (refine wps_ldG _ _ _ (by rfl) ?_)
        | (refine wps_ldA _ (by rfl) ?_)
        | (refine wps_ldI _ (by rfl) ?_)
        | (refine wps_ldGI _ _ _ (by rfl) ?_)
        | (refine wps_ldAI _ (by rfl) ?_)
        | (refine wps_st (by simp) ?_)
        | (refine wps_stA (by simp) (by simp [Value.oneCell']) ?_)
        | ((with_reducible apply wps_val); apply val_ite; rotate_left; refine fun (_ : ¬ _) => ?_; rotate_right; refine fun (_ : _ = true) => ?_)
        | ((with_reducible apply val_ite); rotate_left; refine fun (_ : ¬ _) => ?_; rotate_right; refine fun (_ : _ = true) => ?_)
        | (with_reducible refine wps_regionH ?_)
        | ((with_reducible apply wps_bindV); apply val_iteL; rotate_left; refine fun (_ : ¬ _) => ?_; rotate_right; refine fun (_ : _ = true) => ?_)
        | ((with_reducible apply val_iteL); rotate_left; refine fun (_ : ¬ _) => ?_; rotate_right; refine fun (_ : _ = true) => ?_)
        | (with_reducible exact wps_pure (ent_val rfl)))
      refine wps_ite (fun hc => ?_) (fun hc => ?_)
      · have hlt : t < R.ns := by simp only [decide_eq_true_eq] at hc; omega
        have hset := setD_at (R := R) (k := K) (D := D) hlt
        have hm : K * R.ns + t < R.n * R.ns := by
          have h1 : (K + 1) * R.ns ≤ R.n * R.ns := Nat.mul_le_mul_right _ hkl
          rw [Nat.add_mul] at h1; omega
        have w5t := w5 t hlt
        subst hs
        repeat (first
          | (with_reducible refine wps_bindpure ?_)
          | (with_reducible refine wps_assoc ?_)
          | (with_reducible refine wps_nil ?_)
          | (with_reducible refine wps_stepAlloc fun _ => ?_)
          | (with_reducible refine wps_alloc fun _ => ?_)
          | (with_reducible refine wps_newO fun _ => ?_)
          | (refine wps_ld _ (by rfl) ?_)
          | (refine wps_ldG _ _ _ (by rfl) ?_)
          | (refine wps_ldA _ (by rfl) ?_)
          | (refine wps_ldI _ (by rfl) ?_)
          | (refine wps_ldGI _ _ _ (by rfl) ?_)
          | (refine wps_ldAI _ (by rfl) ?_)
          | (refine wps_st (by simp) ?_)
          | (refine wps_stA (by simp) (by simp [Value.oneCell']) ?_)
          | (with_reducible refine wps_regionH ?_)
          | (with_reducible exact wps_pure (ent_val rfl)))
        rename_i b
        refine wps_swap (A := pc b (List.replicate 64 (Value.int .u8 0))) (B := own 1 ⟨some ⟨b, 0, none⟩, 64, 64⟩ (upTo im t 0)) (Ent.trans (pc_own (n := 64) (z := 1) (by simp)) (Ent.of_eq (by congr 1))) ?_
        refine wps_loop (fun s => ex fun i : Nat => pr (s = (i : Int) ∧ i ≤ 64) * H * seqp sl (mix (K * R.ns + t) (rlast (R.setD K D)) (rlast R)) * seqp cl (mix (K * R.ns + t) (rcach (R.setD K D)) (rcach R)) * own 1 l1 (sl.map vS) * own 1 l2 (cl.map vS) * own 1 l3 (bads R) * own 1 l4 (zv cs) * pc mb [.int .i64 R.n, .int .i64 R.ns, vS l1, vS l2, vS l3, vS l4, .int .i64 R.count, .bool R.off] * own 1 ⟨some ⟨b, 0, none⟩, 64, 64⟩ (upTo im t i)) (fun s => (64 - s).toNat) ?_ fun s => ?_
        · refine ent_ex 0 ?_
          repeat (first
            | (with_reducible exact ent_drop)
            | (with_reducible refine ent_pick ?_)
            | (refine ent_pickC (by rfl) ?_)
            | (refine ent_pickS (by rfl) ?_)
            | (refine ent_pickM (by rfl) ?_)
            | (refine ent_prx ?_ ?_; rotate_left)
            | (refine ent_prq ?_))
          all_goals first | exact ⟨rfl, by omega⟩ | trivial
        · refine wps_ex fun i => wps_prP fun ⟨hs, hi⟩ => ?_
          have hw1 : s < 64 → w64 (w64 ((t : Int) * 64) + s) = ((t * 64 + i : Nat) : Int) := by
            intro h
            rw [w64_id (n := (t : Int) * 64) (by omega) (by omega), w64_id] <;> omega
          refine wps_val (v := decide (i < 64 ∧ t * 64 + i < im.length)) ?_ ?_
          · refine wps_ite (fun h => wps_pure (ent_val ?_)) (fun h => wps_pure (ent_val ?_))
            · have h' : s < 64 := by simpa using h
              rw [hw1 h', ← hl]
              have h1 : i < 64 := by omega
              by_cases h2 : t * 64 + i < im.length
              · simp [h1, h2]; omega
              · simp [h1, h2]; omega
            · have h' : ¬ s < 64 := by simpa using h
              have h1 : ¬ i < 64 := by omega
              simp [h1]
          · refine wps_ite (fun h => ?_) (fun h => ?_)
            · obtain ⟨h1, h2⟩ : i < 64 ∧ t * 64 + i < im.length := by simpa using h
              rw [hw1 (by omega)]
              refine wps_rd (t * 64 + i) im[t * 64 + i] (Ent.trans (ent_drop (B := H)) hx) rfl (by simp [bv]) ?_
              refine wps_wrS i hs (by exact h1) (wps_pure ?_)
              refine ent_prr (by rw [range_add1 hs (by omega)]; omega) (ent_ex (i + 1) ?_)
              refine ent_pickS (by rw [← upTo_set im t h1]; simp [List.getD_eq_getElem?_getD, List.getElem?_eq_getElem h2]) ?_
              repeat (first
                | (with_reducible exact ent_drop)
                | (with_reducible refine ent_pick ?_)
                | (refine ent_pickC (by rfl) ?_)
                | (refine ent_pickS (by rfl) ?_)
                | (refine ent_pickM (by rfl) ?_)
                | (refine ent_prx ?_ ?_; rotate_left)
                | (refine ent_prq ?_))
              all_goals first | exact ⟨range_add1 hs (by omega), by omega⟩ | trivial
            · have hend : i = 64 ∨ im.length ≤ t * 64 + i := by
                have : ¬ (i < 64 ∧ t * 64 + i < im.length) := by simpa using h
                omega
              rw [upTo_end hend]
              refine wps_mapR ?_
              refine wps_regionH ?_
              repeat (first
                | (with_reducible refine wps_bindpure ?_)
                | (with_reducible refine wps_assoc ?_)
                | (with_reducible refine wps_nil ?_)
                | (with_reducible refine wps_stepAlloc fun _ => ?_)
                | (with_reducible refine wps_alloc fun _ => ?_)
                | (with_reducible refine wps_newO fun _ => ?_)
                | (refine wps_ld _ (by rfl) ?_)
                | (refine wps_ldG _ _ _ (by rfl) ?_)
                | (refine wps_ldA _ (by rfl) ?_)
                | (refine wps_ldI _ (by rfl) ?_)
                | (refine wps_ldGI _ _ _ (by rfl) ?_)
                | (refine wps_ldAI _ (by rfl) ?_)
                | (refine wps_st (by simp) ?_)
                | (refine wps_stA (by simp) (by simp [Value.oneCell']) ?_)
                | (with_reducible refine wps_regionH ?_)
                | (with_reducible exact wps_pure (ent_val rfl)))
              rw [w5t]
              refine wps_wrS (K * R.ns + t) rfl (by rw [hq.hl1]; exact hm) ?_
              refine wps_regionH ?_
              repeat (first
                | (with_reducible refine wps_bindpure ?_)
                | (with_reducible refine wps_assoc ?_)
                | (with_reducible refine wps_nil ?_)
                | (with_reducible refine wps_stepAlloc fun _ => ?_)
                | (with_reducible refine wps_alloc fun _ => ?_)
                | (with_reducible refine wps_newO fun _ => ?_)
                | (refine wps_ld _ (by rfl) ?_)
                | (refine wps_ldG _ _ _ (by rfl) ?_)
                | (refine wps_ldA _ (by rfl) ?_)
                | (refine wps_ldI _ (by rfl) ?_)
                | (refine wps_ldGI _ _ _ (by rfl) ?_)
                | (refine wps_ldAI _ (by rfl) ?_)
                | (refine wps_st (by simp) ?_)
                | (refine wps_stA (by simp) (by simp [Value.oneCell']) ?_)
                | (with_reducible refine wps_regionH ?_)
                | (with_reducible exact wps_pure (ent_val rfl)))
              rw [w5t]
              refine wps_wrS (K * R.ns + t) rfl (by rw [hq.hl2]; exact hm) (wps_pure ?_)
              refine ent_prr (by (try dsimp only); rw [range_add1 rfl (by omega)]; omega) (ent_ex (t + 1) (ent_ex (sl.set (K * R.ns + t) ⟨some ⟨b, 0, none⟩, 64, 64⟩) (ent_ex (cl.set (K * R.ns + t) nilS) ?_)))
              refine ent_pick (ent_pick (ent_pick (ent_pickS (by rw [List.map_set]; rfl) (ent_pickS (by rw [List.map_set]; rfl) ?_))))
              refine ent_swap (A := seqp cl (mix (K * R.ns + t) (rcach (R.setD K D)) (rcach R))) (B := seqp (cl.set (K * R.ns + t) nilS) (mix (K * R.ns + t + 1) (rcach (R.setD K D)) (rcach R))) (seqp_mix (Ent.refl _) (Ent.trans (ent_emp _) (by rw [hset.2, hDc]; exact rsl_nil 1))) ?_
              refine ent_pick ?_
              refine ent_swap (A := own 1 ⟨some ⟨b, 0, none⟩, 64, 64⟩ (bv (secOf im t))) (B := byt ⟨some ⟨b, 0, none⟩, 64, 64⟩ (secOf im t)) (own_rsl _ _ _) ?_
              refine ent_join (A := seqp sl (mix (K * R.ns + t) (rlast (R.setD K D)) (rlast R))) (B := byt ⟨some ⟨b, 0, none⟩, 64, 64⟩ (secOf im t)) (C := seqp (sl.set (K * R.ns + t) ⟨some ⟨b, 0, none⟩, 64, 64⟩) (mix (K * R.ns + t + 1) (rlast (R.setD K D)) (rlast R))) (seqp_mix (ent_left _ _) (Ent.trans (ent_right _ _) (Ent.of_eq (by rw [hset.1, hDl])))) ?_
              repeat (first
                | (with_reducible exact ent_drop)
                | (with_reducible refine ent_pick ?_)
                | (refine ent_pickC (by rfl) ?_)
                | (refine ent_pickS (by rfl) ?_)
                | (refine ent_pickM (by rfl) ?_)
                | (refine ent_prx ?_ ?_; rotate_left)
                | (refine ent_prq ?_))
              all_goals first | exact ⟨range_add1 rfl (by omega), by omega, by simpa using hsl, by simpa using hcl⟩ | trivial
      · have hte : t = R.ns := by simp only [decide_eq_true_eq] at hc; omega
        refine wps_mapR (wps_pure ?_)
        refine ent_exr sl ?_
        refine ent_exr cl ?_
        refine ent_exr cs ?_
        simp only [← star_assoc]
        have hfd : D.failed = (R.dk K).failed := by rw [← hD]; rfl
        rw [bads_setD hfd]
        have hmm : K * R.ns + t = (K + 1) * R.ns := by rw [hte, Nat.add_mul]; omega
        rw [hmm]
        have ha : ∀ i, i < R.n * R.ns → ¬ i < (K + 1) * R.ns → i / R.ns ≠ K := fun i hi h => after_k (by omega) (Nat.pos_of_ne_zero fun h0 => by rw [h0] at hi; omega)
        refine ent_swap (A := seqp sl (mix ((K + 1) * R.ns) (rlast (R.setD K D)) (rlast R))) (B := seqp sl (rlast (R.setD K D))) (seqp_ext fun i hi => ?_) ?_
        · simp only [mix]; split
          · rfl
          · rename_i h; exact ((setD_other (ha i (by omega) h)).1).symm
        refine ent_swap (A := seqp cl (mix ((K + 1) * R.ns) (rcach (R.setD K D)) (rcach R))) (B := seqp cl (rcach (R.setD K D))) (seqp_ext fun i hi => ?_) ?_
        · simp only [mix]; split
          · rfl
          · rename_i h; exact ((setD_other (ha i (by omega) h)).2).symm
        refine ent_pickC (by rfl) ?_
        repeat (first
          | (with_reducible exact ent_drop)
          | (with_reducible refine ent_pick ?_)
          | (refine ent_pickC (by rfl) ?_)
          | (refine ent_pickS (by rfl) ?_)
          | (refine ent_pickM (by rfl) ?_)
          | (refine ent_prx ?_ ?_; rotate_left)
          | (refine ent_prq ?_))
        all_goals first | trivial | skip
        refine hq.setD (fun _ => ⟨fun q _ => by rw [hDl]; exact secOf_len im q, fun j b h => by rw [hDc] at h; cases h⟩) hfd (by rw [← hD]; rfl) hsl hcl
end Go.Proofs.Ytldmeimebebllaa
namespace Go.Proofs.Ytldmeimebebllaa
open Go.Mo
set_option linter.unusedVariables false
variable {g : Fr} {cv : CV}
theorem bAnd_le (x : Int) (m : Nat) (hm : m < 4611686018427387904) : 0 ≤ bAnd .i64 x m ∧ bAnd .i64 x m ≤ m := by
  unfold bAnd
  have h : (BitVec.ofInt IntKind.i64.bits x &&& BitVec.ofInt IntKind.i64.bits (m : Int)).toNat ≤ m := by
    rw [BitVec.toNat_and]
    refine Nat.le_trans Nat.and_le_right ?_
    rw [BitVec.toNat_ofInt]
    show ((m : Int) % (2 ^ 64 : Nat)).toNat ≤ m
    omega
  generalize (BitVec.ofInt IntKind.i64.bits x &&& BitVec.ofInt IntKind.i64.bits (m : Int)).toNat = n at h
  have : IntKind.i64.wrap (n : Int) = (n : Int) := w64_id (by omega) (by omega)
  rw [this]; omega
/-- 64 bytes, of which the first one is v -/
def one (v : Int) : List Int := v :: List.replicate 63 0
theorem one_len (v : Int) : (one v).length = 64 := by simp [one]
theorem pc_one {b : Nat} (v : Int) : Ent (pc b ((List.replicate 64 (Value.int .u8 0)).set (0 + 0 * 1) (.int .u8 v))) (byt ⟨some ⟨b, 0, none⟩, 64, 64⟩ (one v)) :=
  Ent.trans (Ent.trans (pc_own (n := 64) (z := 1) (by simp)) (own_rsl _ _ _)) (Ent.of_eq rfl)
theorem law02_alive_spec (hcv : KeysOk cv) : wps g emp (law02_alive cv) (fun b => pr (b = true)) := by
  unfold law02_alive
  refine wps_callE (fun _ => device_New_spec 2 3) fun x => ?_
  rw [if_neg (by decide), show Rk.new (Int.toNat 2) (Int.toNat 3) = Rk.new 2 3 from rfl]
  refine wps_exP fun rb => ?_
  rw [← star_assoc]
  refine wps_prP fun hx => ?_
  subst hx
  unfold rack
  refine wps_exP fun ds => wps_exP fun ps => ?_
  repeat (first
    | (with_reducible refine wps_bindpure ?_)
    | (with_reducible refine wps_assoc ?_)
    | (with_reducible refine wps_nil ?_)
    | (with_reducible refine wps_stepAlloc fun _ => ?_)
    | (with_reducible refine wps_alloc fun _ => ?_)
    | (with_reducible refine wps_newO fun _ => ?_)
    | (refine wps_ld _ (by rfl) ?_)
    | (refine wps_ldG _ _ _ (by rfl) ?_)
    | (refine wps_ldA _ (by rfl) ?_)
    | (refine wps_ldI _ (by rfl) ?_)
    | (refine wps_ldGI _ _ _ (by rfl) ?_)
    | (refine wps_ldAI _ (by rfl) ?_)
    | (refine wps_st (by simp) ?_)
    | (refine wps_stA (by simp) (by simp [Value.oneCell']) ?_)
    | ((with_reducible apply wps_val); apply val_ite; rotate_left; refine fun (_ : ¬ _) => ?_; rotate_right; refine fun (_ : _ = true) => ?_)
    | ((with_reducible apply val_ite); rotate_left; refine fun (_ : ¬ _) => ?_; rotate_right; refine fun (_ : _ = true) => ?_)
    | (with_reducible refine wps_regionH ?_)
    | ((with_reducible apply wps_bindV); apply val_iteL; rotate_left; refine fun (_ : ¬ _) => ?_; rotate_right; refine fun (_ : _ = true) => ?_)
    | ((with_reducible apply val_iteL); rotate_left; refine fun (_ : ¬ _) => ?_; rotate_right; refine fun (_ : _ = true) => ?_)
    | (with_reducible exact wps_pure (ent_val rfl)))
  refine wps_ite (fun h => absurd h (by simp)) (fun _ => ?_)
  repeat (first
    | (with_reducible refine wps_bindpure ?_)
    | (with_reducible refine wps_assoc ?_)
    | (with_reducible refine wps_nil ?_)
    | (with_reducible refine wps_stepAlloc fun _ => ?_)
    | (with_reducible refine wps_alloc fun _ => ?_)
    | (with_reducible refine wps_newO fun _ => ?_)
    | (refine wps_ld _ (by rfl) ?_)
    | (refine wps_ldG _ _ _ (by rfl) ?_)
    | (refine wps_ldA _ (by rfl) ?_)
    | (refine wps_ldI _ (by rfl) ?_)
    | (refine wps_ldGI _ _ _ (by rfl) ?_)
    | (refine wps_ldAI _ (by rfl) ?_)
    | (refine wps_st (by simp) ?_)
    | (refine wps_stA (by simp) (by simp [Value.oneCell']) ?_)
    | ((with_reducible apply wps_val); apply val_ite; rotate_left; refine fun (_ : ¬ _) => ?_; rotate_right; refine fun (_ : _ = true) => ?_)
    | ((with_reducible apply val_ite); rotate_left; refine fun (_ : ¬ _) => ?_; rotate_right; refine fun (_ : _ = true) => ?_)
    | (with_reducible refine wps_regionH ?_)
    | ((with_reducible apply wps_bindV); apply val_iteL; rotate_left; refine fun (_ : ¬ _) => ?_; rotate_right; refine fun (_ : _ = true) => ?_)
    | ((with_reducible apply val_iteL); rotate_left; refine fun (_ : ¬ _) => ?_; rotate_right; refine fun (_ : _ = true) => ?_)
    | (with_reducible exact wps_pure (ent_val rfl)))
  rename_i c
  refine wps_idx 0 rfl rfl (by (try dsimp only); omega) ?_
  repeat (first
    | (with_reducible refine wps_bindpure ?_)
    | (with_reducible refine wps_assoc ?_)
    | (with_reducible refine wps_nil ?_)
    | (with_reducible refine wps_stepAlloc fun _ => ?_)
    | (with_reducible refine wps_alloc fun _ => ?_)
    | (with_reducible refine wps_newO fun _ => ?_)
    | (refine wps_ld _ (by rfl) ?_)
    | (refine wps_ldG _ _ _ (by rfl) ?_)
    | (refine wps_ldA _ (by rfl) ?_)
    | (refine wps_ldI _ (by rfl) ?_)
    | (refine wps_ldGI _ _ _ (by rfl) ?_)
    | (refine wps_ldAI _ (by rfl) ?_)
    | (refine wps_st (by simp) ?_)
    | (refine wps_stA (by simp) (by simp [Value.oneCell']) ?_)
    | ((with_reducible apply wps_val); apply val_ite; rotate_left; refine fun (_ : ¬ _) => ?_; rotate_right; refine fun (_ : _ = true) => ?_)
    | ((with_reducible apply val_ite); rotate_left; refine fun (_ : ¬ _) => ?_; rotate_right; refine fun (_ : _ = true) => ?_)
    | (with_reducible refine wps_regionH ?_)
    | ((with_reducible apply wps_bindV); apply val_iteL; rotate_left; refine fun (_ : ¬ _) => ?_; rotate_right; refine fun (_ : _ = true) => ?_)
    | ((with_reducible apply val_iteL); rotate_left; refine fun (_ : ¬ _) => ?_; rotate_right; refine fun (_ : _ = true) => ?_)
    | (with_reducible exact wps_pure (ent_val rfl)))
  refine wps_swap (pc_one (b := c) 7) ?_
  refine wps_callH (fun _ => device_Rack_Arm_spec rb (Rk.new 2 3) ds ps 1) fun _ => ?_
  refine wps_call2 (fun _ => device_Rack_Write_spec (H := byt ⟨some ⟨c, 0, none⟩, 64, 64⟩ (one 7)) rb ((Rk.new 2 3).arm 1) ds ps 1 2 _ (one 7) (Ent.refl _) (by decide)) fun e1 => ?_
  simp only [← star_assoc]
  refine wps_prP fun he1 => ?_
  refine wps_call2 (fun _ => device_Rack_Write_spec (H := byt ⟨some ⟨c, 0, none⟩, 64, 64⟩ (one 7)) rb (((Rk.new 2 3).arm 1).write 1 2 (one 7)) ds ps 1 1 _ (one 7) (Ent.refl _) (by decide)) fun e2 => ?_
  simp only [← star_assoc]
  refine wps_prP fun he2 => ?_
  generalize hR : (((Rk.new 2 3).arm 1).write 1 2 (one 7)).write 1 1 (one 7) = R
  refine wps_valH (fun _ => device_Rack_Off_val rb R ds ps) ?_
  repeat (first
    | (with_reducible refine wps_bindpure ?_)
    | (with_reducible refine wps_assoc ?_)
    | (with_reducible refine wps_nil ?_)
    | (with_reducible refine wps_stepAlloc fun _ => ?_)
    | (with_reducible refine wps_alloc fun _ => ?_)
    | (with_reducible refine wps_newO fun _ => ?_)
    | (refine wps_ld _ (by rfl) ?_)
    | (refine wps_ldG _ _ _ (by rfl) ?_)
    | (refine wps_ldA _ (by rfl) ?_)
    | (refine wps_ldI _ (by rfl) ?_)
    | (refine wps_ldGI _ _ _ (by rfl) ?_)
    | (refine wps_ldAI _ (by rfl) ?_)
    | (refine wps_st (by simp) ?_)
    | (refine wps_stA (by simp) (by simp [Value.oneCell']) ?_)
    | ((with_reducible apply wps_val); apply val_ite; rotate_left; refine fun (_ : ¬ _) => ?_; rotate_right; refine fun (_ : _ = true) => ?_)
    | ((with_reducible apply val_ite); rotate_left; refine fun (_ : ¬ _) => ?_; rotate_right; refine fun (_ : _ = true) => ?_)
    | (with_reducible refine wps_regionH ?_)
    | ((with_reducible apply wps_bindV); apply val_iteL; rotate_left; refine fun (_ : ¬ _) => ?_; rotate_right; refine fun (_ : _ = true) => ?_)
    | ((with_reducible apply val_iteL); rotate_left; refine fun (_ : ¬ _) => ?_; rotate_right; refine fun (_ : _ = true) => ?_)
    | (with_reducible exact wps_pure (ent_val rfl)))
  rename_i c2
  refine wps_swap (A := pc c2 [Value.int .i64 1]) (B := intsP ⟨some ⟨c2, 0, none⟩, 1, 1⟩ [1]) (Ent.trans (pc_own (n := 1) (z := 1) (by simp)) (own_rsl _ _ _)) ?_
  refine wps_call2 (fun _ => device_Rack_Restore_spec (H := intsP ⟨some ⟨c2, 0, none⟩, 1, 1⟩ [1]) hcv rb R ds ps _ [1] (Ent.refl _)) fun _ => ?_
  simp only [← star_assoc]
  refine wps_callH (fun _ => device_Rack_Lasting_spec rb (R.restore [1]) ds ps 1 2) fun y => ?_
  simp only [← star_assoc]
  refine wps_prP fun hy => ?_
  have hl : (R.restore [1]).lst 1 2 = one 7 := by subst hR; decide
  rw [hl]
  refine wps_fact (Ent.trans (ent_right _ _) (own_len _ _ _)) fun ⟨hl1, _⟩ => ?_
  have hl1' : y.1.len = 64 := by simpa [bv, one] using hl1.symm
  have g1 : e1 = 0 := by rw [he1]; decide
  have g2 : e2 = 12 := by rw [he2]; decide
  have g3 : R.off = true := by subst hR; decide
  subst g1 g2
  rw [g3]
  refine wps_val (v := true) (wps_ite (fun _ => wps_pure (ent_val rfl)) (fun h => absurd rfl h)) ?_
  refine wps_val (v := true) (wps_ite (fun _ => wps_pure (ent_val rfl)) (fun h => absurd rfl h)) ?_
  refine wps_val (v := true) ?_ ?_
  · refine wps_ite (fun _ => ?_) (fun h => absurd (by decide) h)
    refine wps_val (val_frame (F := emp * byt ⟨some ⟨c, 0, none⟩, 64, 64⟩ (one 7) * intsP ⟨some ⟨c2, 0, none⟩, 1, 1⟩ [1] * own 1 y.1 (bv (one 7))) (fun _ => device_Rack_Off_val rb (R.restore [1]) ds ps) (by ac_rfl)) ?_
    exact wps_pure (ent_val rfl)
  refine wps_val (v := true) (wps_ite (fun _ => wps_pure (ent_val (by simp [hl1']))) (fun h => absurd rfl h)) ?_
  refine wps_val (v := true) (wps_ite (fun _ => ?_) (fun h => absurd rfl h)) ?_
  · refine wps_rdS 0 7 rfl rfl ?_
    exact wps_pure (ent_val rfl)
  exact wps_pure (ent_prq rfl)
end Go.Proofs.Ytldmeimebebllaa
namespace Go.Proofs.Ytldmeimebebllaa
open Go.Mo
set_option linter.unusedVariables false
variable {g : Fr} {cv : CV}
/-- a calm rack of two disks of four sectors, each of which has one byte at its head -/
structure Wr (R : Rk) (sure : Nat → Int) (last : Nat → Option Int) : Prop where
  calm : Calm R
  n : R.n = 2
  ns : R.ns = 4
  lasts : ∀ j k : Nat, j < 2 → k < 4 → (R.dk j).lasts k = one (sure (j * 4 + k))
  cached : ∀ j k : Nat, j < 2 → k < 4 → (R.dk j).cached (k : Int) = (last (j * 4 + k)).map one
theorem noughts_one : noughts = one 0 := rfl
theorem Wr.new : Wr (Rk.new 2 4) (fun _ => 0) (fun _ => none) := ⟨Calm.new 2 4, rfl, rfl, fun _ _ _ _ => rfl, fun _ _ _ _ => rfl⟩
theorem Wr.put {R : Rk} {sure : Nat → Int} {last : Nat → Option Int} (h : Wr R sure last) {i : Nat} (hi : i < 8) (v : Int) :
    R.gate ((i / 4 : Nat) : Int) ((i % 4 : Nat) : Int) (one v).length = 0 ∧ Wr (R.write ((i / 4 : Nat) : Int) ((i % 4 : Nat) : Int) (one v)) sure (fun q => if q = i then some v else last q) := by
  have hw := h.calm.write (k := ((i / 4 : Nat) : Int)) (s := ((i % 4 : Nat) : Int)) (b := one v) (by rw [h.n]; omega) (by rw [h.ns]; omega) (one_len v)
  refine ⟨hw.1, ?_⟩
  rw [hw.2]
  refine ⟨h.calm.put _ _ _, h.n, h.ns, fun j k hj hk => ?_, fun j k hj hk => ?_⟩
  · simp only [Rk.put]
    split
    · exact h.lasts j k hj hk
    · exact h.lasts j k hj hk
  · simp only [Rk.put]
    by_cases hji : j = i / 4
    · rw [if_pos (by omega)]
      by_cases hki : k = i % 4
      · simp only [show (k : Int) = ((i % 4 : Nat) : Int) by omega, if_true]
        rw [if_pos (by omega)]; rfl
      · simp only [show ¬ (k : Int) = ((i % 4 : Nat) : Int) by omega, if_false]
        rw [if_neg (by omega)]
        exact h.cached j k hj hk
    · rw [if_neg (by omega), if_neg (by omega)]
      exact h.cached j k hj hk
theorem Wr.restore {R : Rk} {sure : Nat → Int} {last : Nat → Option Int} (h : Wr R sure last) (ks : List Int) {i : Nat} (hi : i < 8) :
    (R.restore ks).lst ((i / 4 : Nat) : Int) ((i % 4 : Nat) : Int) = one (if keepB ks (rank R i) = true then (last i).getD (sure i) else sure i) ∧ (R.restore ks).lErr ((i / 4 : Nat) : Int) ((i % 4 : Nat) : Int) = 0 := by
  have he : (R.restore ks).lErr ((i / 4 : Nat) : Int) ((i % 4 : Nat) : Int) = 0 := by
    rw [Rk.lErr, if_neg]
    show ¬ (_ ∨ _ ≥ (R.n : Int) ∨ _ ∨ _ ≥ (R.ns : Int))
    rw [h.n, h.ns]; omega
  refine ⟨?_, he⟩
  rw [Rk.lst, if_pos he]
  show (Dk.restored R ks ((i / 4 : Nat) : Int).toNat).lasts ((i % 4 : Nat) : Int).toNat = _
  rw [show ((i / 4 : Nat) : Int).toNat = i / 4 by omega, show ((i % 4 : Nat) : Int).toNat = i % 4 by omega]
  simp only [Dk.restored, Dk.clean, Dk.flushed, h.cached (i / 4) (i % 4) (by omega) (by omega), h.lasts (i / 4) (i % 4) (by omega) (by omega), h.calm.failed, h.ns]
  have h1 : i / 4 * 4 + i % 4 = i := by omega
  have h2 : ((i % 4 : Nat) : Int).toNat = i % 4 := by omega
  rw [h1, h2, h1]
  cases last i with
  | none => simp
  | some v => cases keepB ks (rank R i) <;> simp
theorem keep3 (n : Nat) : keepB [3] n = true := by
  rw [keepB, if_neg (by decide), show n % [(3 : Int)].length = 0 from Nat.mod_one n]; decide
theorem keep0 (n : Nat) : keepB [] n = false := rfl
theorem idx7 (x : Int) : ∃ i : Nat, i < 8 ∧ bAnd .i64 x 7 = (i : Int) ∧ w64 (Int.tdiv (bAnd .i64 x 7) 4) = ((i / 4 : Nat) : Int) ∧ Int.tmod (bAnd .i64 x 7) 4 = ((i % 4 : Nat) : Int) := by
  have h := bAnd_le x 7 (by omega)
  have h' : ((7 : Nat) : Int) = 7 := rfl
  rw [h'] at h
  obtain ⟨i, hi⟩ : ∃ i : Nat, bAnd .i64 x 7 = (i : Int) := ⟨(bAnd .i64 x 7).toNat, by omega⟩
  refine ⟨i, by omega, hi, ?_, ?_⟩
  · rw [hi, show Int.tdiv (i : Int) 4 = ((i / 4 : Nat) : Int) from rfl, w64_id] <;> omega
  · rw [hi]; rfl
theorem idx8 {s : Int} {i : Nat} (h : s = (i : Int)) (hi : i < 8) : w64 (Int.tdiv s 4) = ((i / 4 : Nat) : Int) ∧ Int.tmod s 4 = ((i % 4 : Nat) : Int) := by
  subst h
  refine ⟨?_, rfl⟩
  rw [show Int.tdiv (i : Int) 4 = ((i / 4 : Nat) : Int) from rfl, w64_id] <;> omega
/-- eight bytes -/
def eight (f : Nat → Int) : List Value := (List.range 8).map fun i => .int .u8 (f i)
theorem eight_set (f : Nat → Int) {i : Nat} (hi : i < 8) (v : Int) : (eight f).set (0 + i * 1) (.int .u8 v) = eight fun q => if q = i then v else f q := by
  apply List.ext_getElem?
  intro q
  rw [Nat.zero_add, Nat.mul_one, List.getElem?_set]
  unfold eight
  simp only [List.getElem?_map, List.length_map, List.length_range]
  by_cases hq : q < 8
  · rw [List.getElem?_range hq]
    by_cases h : i = q
    · subst h; simp [hq]
    · have : ¬ q = i := fun e => h e.symm
      simp [h, this]
  · rw [List.getElem?_eq_none (by simpa using hq)]
    have : ¬ i = q := by omega
    simp [this]
theorem eight_get (f : Nat → Int) {i : Nat} (hi : i < 8) : (eight f)[0 + i * 1]? = some (.int .u8 (f i)) := by
  rw [Nat.zero_add, Nat.mul_one]
  unfold eight
  rw [List.getElem?_map, List.getElem?_range hi]; rfl
def keepW (all : Bool) (last : Nat → Option Int) (i : Nat) : Int := if all = true then (last i).getD 0 else 0
theorem law02_DeviceKeeps_spec (hcv : KeysOk cv) (x : Slc) (xs : List Int) (all : Bool) : wps g (intsP x xs) (law02_DeviceKeeps cv x all) (fun b => pr (b = true)) := by
  unfold law02_DeviceKeeps
  refine wps_callE (fun _ => law02_alive_spec hcv) fun a => ?_
  refine wps_prP fun ha => ?_
  subst ha
  refine wps_fact (ilen_of (H := intsP x xs) (Ent.refl _)) fun hl => ?_
  refine wps_ite (fun h => absurd h (by decide)) (fun _ => ?_)
  refine wps_ite (fun _ => wps_pure (ent_prq rfl)) (fun hle => ?_)
  have hle' : xs.length ≤ 100 := by simp only [decide_eq_true_eq] at hle; omega
  refine wps_callE (fun _ => device_New_spec 2 4) fun y => ?_
  rw [if_neg (by decide), show Rk.new (Int.toNat 2) (Int.toNat 4) = Rk.new 2 4 from rfl]
  refine wps_exP fun rb => ?_
  simp only [← star_assoc]
  refine wps_prP fun hy => ?_
  subst hy
  unfold rack
  refine wps_exP fun ds => wps_exP fun ps => ?_
  repeat (first
    | (with_reducible refine wps_bindpure ?_)
    | (with_reducible refine wps_assoc ?_)
    | (with_reducible refine wps_nil ?_)
    | (with_reducible refine wps_stepAlloc fun _ => ?_)
    | (with_reducible refine wps_alloc fun _ => ?_)
    | (with_reducible refine wps_newO fun _ => ?_)
    | (refine wps_ld _ (by rfl) ?_)
    | (refine wps_ldG _ _ _ (by rfl) ?_)
    | (refine wps_ldA _ (by rfl) ?_)
    | (refine wps_ldI _ (by rfl) ?_)
    | (refine wps_ldGI _ _ _ (by rfl) ?_)
    | (refine wps_ldAI _ (by rfl) ?_)
    | (refine wps_st (by simp) ?_)
    | (refine wps_stA (by simp) (by simp [Value.oneCell']) ?_)
    | ((with_reducible apply wps_val); apply val_ite; rotate_left; refine fun (_ : ¬ _) => ?_; rotate_right; refine fun (_ : _ = true) => ?_)
    | ((with_reducible apply val_ite); rotate_left; refine fun (_ : ¬ _) => ?_; rotate_right; refine fun (_ : _ = true) => ?_)
    | (with_reducible refine wps_regionH ?_)
    | ((with_reducible apply wps_bindV); apply val_iteL; rotate_left; refine fun (_ : ¬ _) => ?_; rotate_right; refine fun (_ : _ = true) => ?_)
    | ((with_reducible apply val_iteL); rotate_left; refine fun (_ : ¬ _) => ?_; rotate_right; refine fun (_ : _ = true) => ?_)
    | (with_reducible exact wps_pure (ent_val rfl)))
  refine wps_ite (fun h => absurd h (by simp)) (fun _ => ?_)
  repeat (first
    | (with_reducible refine wps_bindpure ?_)
    | (with_reducible refine wps_assoc ?_)
    | (with_reducible refine wps_nil ?_)
    | (with_reducible refine wps_stepAlloc fun _ => ?_)
    | (with_reducible refine wps_alloc fun _ => ?_)
    | (with_reducible refine wps_newO fun _ => ?_)
    | (refine wps_ld _ (by rfl) ?_)
    | (refine wps_ldG _ _ _ (by rfl) ?_)
    | (refine wps_ldA _ (by rfl) ?_)
    | (refine wps_ldI _ (by rfl) ?_)
    | (refine wps_ldGI _ _ _ (by rfl) ?_)
    | (refine wps_ldAI _ (by rfl) ?_)
    | (refine wps_st (by simp) ?_)
    | (refine wps_stA (by simp) (by simp [Value.oneCell']) ?_)
    | ((with_reducible apply wps_val); apply val_ite; rotate_left; refine fun (_ : ¬ _) => ?_; rotate_right; refine fun (_ : _ = true) => ?_)
    | ((with_reducible apply val_ite); rotate_left; refine fun (_ : ¬ _) => ?_; rotate_right; refine fun (_ : _ = true) => ?_)
    | (with_reducible refine wps_regionH ?_)
    | ((with_reducible apply wps_bindV); apply val_iteL; rotate_left; refine fun (_ : ¬ _) => ?_; rotate_right; refine fun (_ : _ = true) => ?_)
    | ((with_reducible apply val_iteL); rotate_left; refine fun (_ : ¬ _) => ?_; rotate_right; refine fun (_ : _ = true) => ?_)
    | (with_reducible exact wps_pure (ent_val rfl)))
  rename_i c7
  refine wps_loop (fun s => ex fun n : Nat => ex fun last : Nat → Option Int => ex fun R : Rk => pr (s = (n : Int) ∧ n ≤ xs.length ∧ Wr R (fun _ => 0) last) * intsP x xs * rackP rb R ds ps * pc c7 (eight (keepW all last))) (fun s => (xs.length - s).toNat) ?_ fun s => ?_
  · refine ent_ex 0 (ent_ex (fun _ => none) (ent_ex (Rk.new 2 4) ?_))
    refine ent_pickC ?_ ?_
    · show _ = eight _
      cases all <;> rfl
    · repeat (first
        | (with_reducible exact ent_drop)
        | (with_reducible refine ent_pick ?_)
        | (refine ent_pickC (by rfl) ?_)
        | (refine ent_pickS (by rfl) ?_)
        | (refine ent_pickM (by rfl) ?_)
        | (refine ent_prx ?_ ?_; rotate_left)
        | (refine ent_prq ?_))
      all_goals first | exact ⟨rfl, by omega, Wr.new⟩ | trivial
  · refine wps_ex fun n => wps_ex fun last => wps_ex fun R => wps_prP fun ⟨hs, hn, hW⟩ => ?_
    refine wps_ite (fun hc => ?_) (fun hc => ?_)
    · have hlt : n < xs.length := by simp only [decide_eq_true_eq] at hc; omega
      refine wps_rdS n xs[n] hs (by simp [zv]) ?_
      obtain ⟨i, hi, e1, e2, e3⟩ := idx7 xs[n]
      rw [e2, e3, e1]
      generalize IntKind.wrap .u8 (w64 (s + 1)) = v
      repeat (first
        | (with_reducible refine wps_bindpure ?_)
        | (with_reducible refine wps_assoc ?_)
        | (with_reducible refine wps_nil ?_)
        | (with_reducible refine wps_stepAlloc fun _ => ?_)
        | (with_reducible refine wps_alloc fun _ => ?_)
        | (with_reducible refine wps_newO fun _ => ?_)
        | (refine wps_ld _ (by rfl) ?_)
        | (refine wps_ldG _ _ _ (by rfl) ?_)
        | (refine wps_ldA _ (by rfl) ?_)
        | (refine wps_ldI _ (by rfl) ?_)
        | (refine wps_ldGI _ _ _ (by rfl) ?_)
        | (refine wps_ldAI _ (by rfl) ?_)
        | (refine wps_st (by simp) ?_)
        | (refine wps_stA (by simp) (by simp [Value.oneCell']) ?_)
        | ((with_reducible apply wps_val); apply val_ite; rotate_left; refine fun (_ : ¬ _) => ?_; rotate_right; refine fun (_ : _ = true) => ?_)
        | ((with_reducible apply val_ite); rotate_left; refine fun (_ : ¬ _) => ?_; rotate_right; refine fun (_ : _ = true) => ?_)
        | (with_reducible refine wps_regionH ?_)
        | ((with_reducible apply wps_bindV); apply val_iteL; rotate_left; refine fun (_ : ¬ _) => ?_; rotate_right; refine fun (_ : _ = true) => ?_)
        | ((with_reducible apply val_iteL); rotate_left; refine fun (_ : ¬ _) => ?_; rotate_right; refine fun (_ : _ = true) => ?_)
        | (with_reducible exact wps_pure (ent_val rfl)))
      rename_i b
      refine wps_idx 0 rfl rfl (by (try dsimp only); omega) ?_
      repeat (first
        | (with_reducible refine wps_bindpure ?_)
        | (with_reducible refine wps_assoc ?_)
        | (with_reducible refine wps_nil ?_)
        | (with_reducible refine wps_stepAlloc fun _ => ?_)
        | (with_reducible refine wps_alloc fun _ => ?_)
        | (with_reducible refine wps_newO fun _ => ?_)
        | (refine wps_ld _ (by rfl) ?_)
        | (refine wps_ldG _ _ _ (by rfl) ?_)
        | (refine wps_ldA _ (by rfl) ?_)
        | (refine wps_ldI _ (by rfl) ?_)
        | (refine wps_ldGI _ _ _ (by rfl) ?_)
        | (refine wps_ldAI _ (by rfl) ?_)
        | (refine wps_st (by simp) ?_)
        | (refine wps_stA (by simp) (by simp [Value.oneCell']) ?_)
        | ((with_reducible apply wps_val); apply val_ite; rotate_left; refine fun (_ : ¬ _) => ?_; rotate_right; refine fun (_ : _ = true) => ?_)
        | ((with_reducible apply val_ite); rotate_left; refine fun (_ : ¬ _) => ?_; rotate_right; refine fun (_ : _ = true) => ?_)
        | (with_reducible refine wps_regionH ?_)
        | ((with_reducible apply wps_bindV); apply val_iteL; rotate_left; refine fun (_ : ¬ _) => ?_; rotate_right; refine fun (_ : _ = true) => ?_)
        | ((with_reducible apply val_iteL); rotate_left; refine fun (_ : ¬ _) => ?_; rotate_right; refine fun (_ : _ = true) => ?_)
        | (with_reducible exact wps_pure (ent_val rfl)))
      refine wps_swap (pc_one (b := b) v) ?_
      have hp := hW.put hi v
      refine wps_call2 (fun _ => device_Rack_Write_spec (H := byt ⟨some ⟨b, 0, none⟩, 64, 64⟩ (one v)) rb R ds ps _ _ _ (one v) (Ent.refl _) (by rw [one_len]; omega)) fun e => ?_
      simp only [← star_assoc]
      refine wps_prP fun he => ?_
      rw [hp.1] at he
      subst he
      refine wps_ite (fun h => absurd h (by decide)) (fun _ => ?_)
      have hend : ∀ W, W = eight (keepW all fun q => if q = i then some v else last q) → Ent (emp * intsP x xs * pc c7 W * byt ⟨some ⟨b, 0, none⟩, 64, 64⟩ (one v) * rackP rb (R.write ((i / 4 : Nat) : Int) ((i % 4 : Nat) : Int) (one v)) ds ps)
          (pr ((xs.length - w64 (s + 1)).toNat < (xs.length - s).toNat) * ex fun n : Nat => ex fun last : Nat → Option Int => ex fun R : Rk => pr (w64 (s + 1) = (n : Int) ∧ n ≤ xs.length ∧ Wr R (fun _ => 0) last) * intsP x xs * rackP rb R ds ps * pc c7 (eight (keepW all last))) := by
        intro W hW'
        refine ent_prr (by rw [range_add1 hs (by omega)]; omega) (ent_ex (n + 1) (ent_ex (fun q => if q = i then some v else last q) (ent_ex (R.write ((i / 4 : Nat) : Int) ((i % 4 : Nat) : Int) (one v)) ?_)))
        refine ent_pickC hW' (ent_pick ?_)
        repeat (first
          | (with_reducible exact ent_drop)
          | (with_reducible refine ent_pick ?_)
          | (refine ent_pickC (by rfl) ?_)
          | (refine ent_pickS (by rfl) ?_)
          | (refine ent_pickM (by rfl) ?_)
          | (refine ent_prx ?_ ?_; rotate_left)
          | (refine ent_prq ?_))
        all_goals first | exact ⟨range_add1 hs (by omega), by omega, hp.2⟩ | trivial
      refine wps_ite (fun hall => ?_) (fun hall => ?_)
      · refine wps_idxA i rfl hi ?_
        refine wps_st (by simp [eight]; omega) (wps_pure ?_)
        refine Ent.trans (Ent.of_eq ?_) (hend _ rfl)
        rw [eight_set _ hi]
        have : (fun q => if q = i then v else keepW all last q) = keepW all fun q => if q = i then some v else last q := by
          funext q; by_cases hq : q = i <;> simp [keepW, hall, hq]
        rw [this]
        ac_rfl
      · refine wps_pure (Ent.trans (Ent.of_eq ?_) (hend _ rfl))
        have : keepW all last = keepW all fun q => if q = i then some v else last q := by
          funext q; simp [keepW, hall]
        rw [this]
    · refine wps_mapR ?_
      refine wps_alloc fun k => ?_
      refine wps_bindS (R := fun b => intsP x xs * rackP rb R ds ps * pc c7 (eight (keepW all last)) * intsP b (if all = true then [3] else [])) ?_ fun b => ?_
      · refine wps_swap (A := pc k []) (B := own 1 ⟨some ⟨k, 0, none⟩, 0, 0⟩ []) (pc_own (n := 0) (z := 1) rfl) ?_
        refine wps_ite (fun hall => ?_) (fun hall => ?_)
        · repeat (first
            | (with_reducible refine wps_bindpure ?_)
            | (with_reducible refine wps_assoc ?_)
            | (with_reducible refine wps_nil ?_)
            | (with_reducible refine wps_stepAlloc fun _ => ?_)
            | (with_reducible refine wps_alloc fun _ => ?_)
            | (with_reducible refine wps_newO fun _ => ?_)
            | (refine wps_ld _ (by rfl) ?_)
            | (refine wps_ldG _ _ _ (by rfl) ?_)
            | (refine wps_ldA _ (by rfl) ?_)
            | (refine wps_ldI _ (by rfl) ?_)
            | (refine wps_ldGI _ _ _ (by rfl) ?_)
            | (refine wps_ldAI _ (by rfl) ?_)
            | (refine wps_st (by simp) ?_)
            | (refine wps_stA (by simp) (by simp [Value.oneCell']) ?_)
            | ((with_reducible apply wps_val); apply val_ite; rotate_left; refine fun (_ : ¬ _) => ?_; rotate_right; refine fun (_ : _ = true) => ?_)
            | ((with_reducible apply val_ite); rotate_left; refine fun (_ : ¬ _) => ?_; rotate_right; refine fun (_ : _ = true) => ?_)
            | (with_reducible refine wps_regionH ?_)
            | ((with_reducible apply wps_bindV); apply val_iteL; rotate_left; refine fun (_ : ¬ _) => ?_; rotate_right; refine fun (_ : _ = true) => ?_)
            | ((with_reducible apply val_iteL); rotate_left; refine fun (_ : ¬ _) => ?_; rotate_right; refine fun (_ : _ = true) => ?_)
            | (with_reducible exact wps_pure (ent_val rfl)))
          refine wps_app 1 [Value.int .i64 3] rfl (by decide) (rsl_pc rfl) (by simp [Value.oneCell']) (by (try dsimp only); omega) fun u hu => ?_
          refine wps_pure ?_
          show Ent _ (_ * intsP u _)
          rw [if_pos hall]
          refine ent_swap (A := own 1 u ([] ++ [Value.int .i64 3])) (B := intsP u [3]) (own_rsl _ _ _) ?_
          repeat (first
            | (with_reducible exact ent_drop)
            | (with_reducible refine ent_pick ?_)
            | (refine ent_pickC (by rfl) ?_)
            | (refine ent_pickS (by rfl) ?_)
            | (refine ent_pickM (by rfl) ?_)
            | (refine ent_prx ?_ ?_; rotate_left)
            | (refine ent_prq ?_))
        · refine wps_pure ?_
          show Ent _ (_ * intsP _ _)
          rw [if_neg hall]
          refine ent_swap (A := own 1 ⟨some ⟨k, 0, none⟩, 0, 0⟩ []) (B := intsP ⟨some ⟨k, 0, none⟩, 0, 0⟩ []) (own_rsl _ _ _) ?_
          repeat (first
            | (with_reducible exact ent_drop)
            | (with_reducible refine ent_pick ?_)
            | (refine ent_pickC (by rfl) ?_)
            | (refine ent_pickS (by rfl) ?_)
            | (refine ent_pickM (by rfl) ?_)
            | (refine ent_prx ?_ ?_; rotate_left)
            | (refine ent_prq ?_))
      · refine wps_call2 (fun _ => device_Rack_Restore_spec (H := intsP b (if all = true then [3] else [])) hcv rb R ds ps b _ (Ent.refl _)) fun _ => ?_
        simp only [← star_assoc]
        refine wps_loop (fun s => ex fun n : Nat => pr (s = (n : Int) ∧ n ≤ 8) * pc c7 (eight (keepW all last)) * rackP rb (R.restore (if all = true then [3] else [])) ds ps) (fun s => (8 - s).toNat) ?_ fun s => ?_
        · refine ent_ex 0 ?_
          repeat (first
            | (with_reducible exact ent_drop)
            | (with_reducible refine ent_pick ?_)
            | (refine ent_pickC (by rfl) ?_)
            | (refine ent_pickS (by rfl) ?_)
            | (refine ent_pickM (by rfl) ?_)
            | (refine ent_prx ?_ ?_; rotate_left)
            | (refine ent_prq ?_))
          all_goals first | exact ⟨rfl, by omega⟩ | trivial
        · refine wps_ex fun n => wps_prP fun ⟨hs, hn⟩ => ?_
          refine wps_ite (fun hc => ?_) (fun hc => ?_)
          · have hlt : n < 8 := by simp only [decide_eq_true_eq] at hc; omega
            obtain ⟨e2, e3⟩ := idx8 hs hlt
            rw [e2, e3]
            obtain ⟨r1, r2⟩ := hW.restore (if all = true then [3] else []) hlt
            refine wps_callH (fun _ => device_Rack_Lasting_spec rb (R.restore (if all = true then [3] else [])) ds ps _ _) fun y => ?_
            rw [r1, r2]
            have hv : (if keepB (if all = true then [3] else []) (rank R n) = true then (last n).getD 0 else 0) = keepW all last n := by
              cases all
              · simp [keep0, keepW]
              · simp [keep3, keepW]
            rw [hv]
            simp only [← star_assoc]
            refine wps_prP fun hy => ?_
            rw [hy]
            refine wps_fact (Ent.trans (ent_right _ _) (own_len _ _ _)) fun ⟨hl1, _⟩ => ?_
            have hl1' : y.1.len = 64 := by simpa [bv, one] using hl1.symm
            refine wps_regionH ?_
            refine wps_ite (fun h => absurd h (by decide)) (fun _ => ?_)
            refine wps_ite (fun h => absurd h (by simp [hl1'])) (fun _ => ?_)
            refine wps_rdI 0 (keepW all last n) (Ent.trans (ent_right _ _) (own_rsl _ _ _)) (Ent.refl _) rfl rfl ?_
            refine wps_idxA n hs hlt ?_
            refine wps_ldI (keepW all last n) (eight_get _ hlt) ?_
            refine wps_ite (fun h => absurd h (by simp)) (fun _ => wps_pure ?_)
            refine ent_prr (by rw [range_add1 hs (by omega)]; omega) (ent_ex (n + 1) ?_)
            repeat (first
              | (with_reducible exact ent_drop)
              | (with_reducible refine ent_pick ?_)
              | (refine ent_pickC (by rfl) ?_)
              | (refine ent_pickS (by rfl) ?_)
              | (refine ent_pickM (by rfl) ?_)
              | (refine ent_prx ?_ ?_; rotate_left)
              | (refine ent_prq ?_))
            all_goals first | exact ⟨range_add1 hs (by omega), by omega⟩ | trivial
          · exact wps_mapR (wps_pure (ent_prq rfl))
end Go.Proofs.Ytldmeimebebllaa
namespace Go.Proofs.Ytldmeimebebllaa
open Go.Mo
set_option linter.unusedVariables false
variable {g : Fr} {cv : CV}
theorem Calm.setD {R : Rk} (h : Calm R) {k : Nat} {D : Dk} (hf : D.failed = false) (hc : D.count = -1) : Calm (R.setD k D) := by
  refine ⟨h.off, h.count, fun j => ?_, fun j => ?_⟩
  · simp only [Rk.setD]; split
    · exact hf
    · exact h.failed j
  · simp only [Rk.setD]; split
    · exact hc
    · exact h.counts j
theorem Calm.flush {R : Rk} (h : Calm R) {k : Int} (hk : 0 ≤ k ∧ k < R.n) (hs : 0 < R.ns) : R.gate k 0 64 = 0 ∧ R.flush k = R.setD k.toNat (((R.dk k.toNat).flushed fun _ => true).clean) ∧ Calm (R.flush k) := by
  have hg := h.gate hk (s := 0) (by omega)
  obtain ⟨_, _, _, _, hgd⟩ := gate_ok hg
  have he : R.flush k = R.setD k.toNat (((R.dk k.toNat).flushed fun _ => true).clean) := by rw [Rk.flush, if_pos hg, hgd, h.tick]
  refine ⟨hg, he, ?_⟩
  rw [he]
  exact h.setD (h.failed _) (h.counts _)
theorem Wr.flush {R : Rk} {sure : Nat → Int} {last : Nat → Option Int} (h : Wr R sure last) :
    R.gate 0 0 64 = 0 ∧ (R.flush 0).gate 1 0 64 = 0 ∧ Wr ((R.flush 0).flush 1) (fun q => (last q).getD (sure q)) (fun _ => none) := by
  have h1 := h.calm.flush (k := 0) (by rw [h.n]; omega) (by rw [h.ns]; omega)
  have hn1 := flush_n (R := R) 0
  have h2 := h1.2.2.flush (k := 1) (by rw [hn1.1, h.n]; omega) (by rw [hn1.2, h.ns]; omega)
  have hn2 := flush_n (R := R.flush 0) 1
  refine ⟨h1.1, h2.1, h2.2.2, by rw [hn2.1, hn1.1, h.n], by rw [hn2.2, hn1.2, h.ns], fun j k hj hk => ?_, fun j k hj hk => ?_⟩
  · rw [h2.2.1, h1.2.1]
    have hjj : j = 0 ∨ j = 1 := by omega
    rcases hjj with e | e <;> subst e
    · have hc := h.cached 0 k (by omega) hk
      have hl := h.lasts 0 k (by omega) hk
      simp only [Rk.setD, Dk.flushed, Dk.clean, Int.toNat_zero, show Int.toNat 1 = 1 from rfl, show ¬ (0 : Nat) = 1 by omega, if_false, if_true, hc, hl]
      cases last (0 * 4 + k) <;> rfl
    · have hc := h.cached 1 k (by omega) hk
      have hl := h.lasts 1 k (by omega) hk
      simp only [Rk.setD, Dk.flushed, Dk.clean, Int.toNat_zero, show Int.toNat 1 = 1 from rfl, show ¬ (1 : Nat) = 0 by omega, if_false, if_true, hc, hl]
      cases last (1 * 4 + k) <;> rfl
  · rw [h2.2.1, h1.2.1]
    have hjj : j = 0 ∨ j = 1 := by omega
    rcases hjj with e | e <;> subst e <;> simp [Rk.setD, Dk.clean]
theorem Wr.reads {R : Rk} {sure : Nat → Int} {last : Nat → Option Int} (h : Wr R sure last) (ks : List Int) {i : Nat} (hi : i < 8) :
    (R.restore ks).rd ((i / 4 : Nat) : Int) ((i % 4 : Nat) : Int) = one (if keepB ks (rank R i) = true then (last i).getD (sure i) else sure i) ∧ (R.restore ks).rdErr ((i / 4 : Nat) : Int) ((i % 4 : Nat) : Int) = 0 := by
  have h1 := h.restore ks hi
  have hr : ¬ (((i / 4 : Nat) : Int) < 0 ∨ ((i / 4 : Nat) : Int) ≥ ((R.restore ks).n : Int) ∨ ((i % 4 : Nat) : Int) < 0 ∨ ((i % 4 : Nat) : Int) ≥ ((R.restore ks).ns : Int)) := by
    show ¬ (_ ∨ _ ≥ (R.n : Int) ∨ _ ∨ _ ≥ (R.ns : Int))
    rw [h.n, h.ns]; omega
  have he : (R.restore ks).rdErr ((i / 4 : Nat) : Int) ((i % 4 : Nat) : Int) = 0 := by
    rw [Rk.rdErr, if_neg (by simp [Rk.restore]), if_neg hr, if_neg]
    show ¬ (R.dk _).failed = true
    simp [h.calm.failed]
  refine ⟨?_, he⟩
  rw [← h1.1, Rk.rd, if_pos he, Rk.lst, if_pos h1.2]
  rfl
theorem law02_DeviceLasts_spec (hcv : KeysOk cv) (x : Slc) (xs : List Int) (fl : Int) (y : Slc) (ks : List Int) : wps g (intsP x xs * intsP y ks) (law02_DeviceLasts cv x fl y) (fun b => pr (b = true)) := by
  unfold law02_DeviceLasts
  refine wps_callE (fun _ => law02_alive_spec hcv) fun a => ?_
  refine wps_prP fun ha => ?_
  subst ha
  refine wps_fact (ilen_of (H := intsP x xs * intsP y ks) (s := x) (b := xs) (ent_left _ _)) fun hl => ?_
  refine wps_ite (fun h => absurd h (by decide)) (fun _ => ?_)
  repeat (first
    | (with_reducible refine wps_bindpure ?_)
    | (with_reducible refine wps_assoc ?_)
    | (with_reducible refine wps_nil ?_)
    | (with_reducible refine wps_stepAlloc fun _ => ?_)
    | (with_reducible refine wps_alloc fun _ => ?_)
    | (with_reducible refine wps_newO fun _ => ?_)
    | (refine wps_ld _ (by rfl) ?_)
    | (refine wps_ldG _ _ _ (by rfl) ?_)
    | (refine wps_ldA _ (by rfl) ?_)
    | (refine wps_ldI _ (by rfl) ?_)
    | (refine wps_ldGI _ _ _ (by rfl) ?_)
    | (refine wps_ldAI _ (by rfl) ?_)
    | (refine wps_st (by simp) ?_)
    | (refine wps_stA (by simp) (by simp [Value.oneCell']) ?_)
    | ((with_reducible apply wps_val); apply val_ite; rotate_left; refine fun (_ : ¬ _) => ?_; rotate_right; refine fun (_ : _ = true) => ?_)
    | ((with_reducible apply val_ite); rotate_left; refine fun (_ : ¬ _) => ?_; rotate_right; refine fun (_ : _ = true) => ?_)
    | (with_reducible refine wps_regionH ?_)
    | ((with_reducible apply wps_bindV); apply val_iteL; rotate_left; refine fun (_ : ¬ _) => ?_; rotate_right; refine fun (_ : _ = true) => ?_)
    | ((with_reducible apply val_iteL); rotate_left; refine fun (_ : ¬ _) => ?_; rotate_right; refine fun (_ : _ = true) => ?_)
    | (with_reducible exact wps_pure (ent_val rfl)))
  refine wps_ite (fun _ => wps_pure (ent_prq rfl)) (fun hle => ?_)
  have hle' : xs.length ≤ 200 := by
    by_cases h : (x.len : Int) > 200
    · simp [h] at hle
    · omega
  refine wps_callE (fun _ => device_New_spec 2 4) fun z => ?_
  rw [if_neg (by decide), show Rk.new (Int.toNat 2) (Int.toNat 4) = Rk.new 2 4 from rfl]
  refine wps_exP fun rb => ?_
  simp only [← star_assoc]
  refine wps_prP fun hz => ?_
  subst hz
  unfold rack
  refine wps_exP fun ds => wps_exP fun ps => ?_
  repeat (first
    | (with_reducible refine wps_bindpure ?_)
    | (with_reducible refine wps_assoc ?_)
    | (with_reducible refine wps_nil ?_)
    | (with_reducible refine wps_stepAlloc fun _ => ?_)
    | (with_reducible refine wps_alloc fun _ => ?_)
    | (with_reducible refine wps_newO fun _ => ?_)
    | (refine wps_ld _ (by rfl) ?_)
    | (refine wps_ldG _ _ _ (by rfl) ?_)
    | (refine wps_ldA _ (by rfl) ?_)
    | (refine wps_ldI _ (by rfl) ?_)
    | (refine wps_ldGI _ _ _ (by rfl) ?_)
    | (refine wps_ldAI _ (by rfl) ?_)
    | (refine wps_st (by simp) ?_)
    | (refine wps_stA (by simp) (by simp [Value.oneCell']) ?_)
    | ((with_reducible apply wps_val); apply val_ite; rotate_left; refine fun (_ : ¬ _) => ?_; rotate_right; refine fun (_ : _ = true) => ?_)
    | ((with_reducible apply val_ite); rotate_left; refine fun (_ : ¬ _) => ?_; rotate_right; refine fun (_ : _ = true) => ?_)
    | (with_reducible refine wps_regionH ?_)
    | ((with_reducible apply wps_bindV); apply val_iteL; rotate_left; refine fun (_ : ¬ _) => ?_; rotate_right; refine fun (_ : _ = true) => ?_)
    | ((with_reducible apply val_iteL); rotate_left; refine fun (_ : ¬ _) => ?_; rotate_right; refine fun (_ : _ = true) => ?_)
    | (with_reducible exact wps_pure (ent_val rfl)))
  refine wps_ite (fun h => absurd h (by simp)) (fun _ => ?_)
  repeat (first
    | (with_reducible refine wps_bindpure ?_)
    | (with_reducible refine wps_assoc ?_)
    | (with_reducible refine wps_nil ?_)
    | (with_reducible refine wps_stepAlloc fun _ => ?_)
    | (with_reducible refine wps_alloc fun _ => ?_)
    | (with_reducible refine wps_newO fun _ => ?_)
    | (refine wps_ld _ (by rfl) ?_)
    | (refine wps_ldG _ _ _ (by rfl) ?_)
    | (refine wps_ldA _ (by rfl) ?_)
    | (refine wps_ldI _ (by rfl) ?_)
    | (refine wps_ldGI _ _ _ (by rfl) ?_)
    | (refine wps_ldAI _ (by rfl) ?_)
    | (refine wps_st (by simp) ?_)
    | (refine wps_stA (by simp) (by simp [Value.oneCell']) ?_)
    | ((with_reducible apply wps_val); apply val_ite; rotate_left; refine fun (_ : ¬ _) => ?_; rotate_right; refine fun (_ : _ = true) => ?_)
    | ((with_reducible apply val_ite); rotate_left; refine fun (_ : ¬ _) => ?_; rotate_right; refine fun (_ : _ = true) => ?_)
    | (with_reducible refine wps_regionH ?_)
    | ((with_reducible apply wps_bindV); apply val_iteL; rotate_left; refine fun (_ : ¬ _) => ?_; rotate_right; refine fun (_ : _ = true) => ?_)
    | ((with_reducible apply val_iteL); rotate_left; refine fun (_ : ¬ _) => ?_; rotate_right; refine fun (_ : _ = true) => ?_)
    | (with_reducible exact wps_pure (ent_val rfl)))
  rename_i c9 c10
  refine wps_loop (fun s => ex fun n : Nat => ex fun sure : Nat → Int => ex fun last : Nat → Option Int => ex fun R : Rk => pr (s = (n : Int) ∧ n ≤ xs.length ∧ Wr R sure last) * intsP x xs * intsP y ks * rackP rb R ds ps * pc c9 (eight sure) * pc c10 (eight fun q => (last q).getD (sure q))) (fun s => (xs.length - s).toNat) ?_ fun s => ?_
  · refine ent_ex 0 (ent_ex (fun _ => 0) (ent_ex (fun _ => none) (ent_ex (Rk.new 2 4) ?_)))
    refine ent_pickC (by rfl) (ent_pickC (by rfl) ?_)
    repeat (first
      | (with_reducible exact ent_drop)
      | (with_reducible refine ent_pick ?_)
      | (refine ent_pickC (by rfl) ?_)
      | (refine ent_pickS (by rfl) ?_)
      | (refine ent_pickM (by rfl) ?_)
      | (refine ent_prx ?_ ?_; rotate_left)
      | (refine ent_prq ?_))
    all_goals first | exact ⟨rfl, by omega, Wr.new⟩ | trivial
  · refine wps_ex fun n => wps_ex fun sure => wps_ex fun last => wps_ex fun R => wps_prP fun ⟨hs, hn, hW⟩ => ?_
    refine wps_ite (fun hc => ?_) (fun hc => ?_)
    · have hlt : n < xs.length := by simp only [decide_eq_true_eq] at hc; omega
      refine wps_rdS n xs[n] hs (by simp [zv]) ?_
      obtain ⟨i, hi, e1, e2, e3⟩ := idx7 xs[n]
      rw [e2, e3, e1]
      generalize IntKind.wrap .u8 (w64 (s + 1)) = v
      repeat (first
        | (with_reducible refine wps_bindpure ?_)
        | (with_reducible refine wps_assoc ?_)
        | (with_reducible refine wps_nil ?_)
        | (with_reducible refine wps_stepAlloc fun _ => ?_)
        | (with_reducible refine wps_alloc fun _ => ?_)
        | (with_reducible refine wps_newO fun _ => ?_)
        | (refine wps_ld _ (by rfl) ?_)
        | (refine wps_ldG _ _ _ (by rfl) ?_)
        | (refine wps_ldA _ (by rfl) ?_)
        | (refine wps_ldI _ (by rfl) ?_)
        | (refine wps_ldGI _ _ _ (by rfl) ?_)
        | (refine wps_ldAI _ (by rfl) ?_)
        | (refine wps_st (by simp) ?_)
        | (refine wps_stA (by simp) (by simp [Value.oneCell']) ?_)
        | ((with_reducible apply wps_val); apply val_ite; rotate_left; refine fun (_ : ¬ _) => ?_; rotate_right; refine fun (_ : _ = true) => ?_)
        | ((with_reducible apply val_ite); rotate_left; refine fun (_ : ¬ _) => ?_; rotate_right; refine fun (_ : _ = true) => ?_)
        | (with_reducible refine wps_regionH ?_)
        | ((with_reducible apply wps_bindV); apply val_iteL; rotate_left; refine fun (_ : ¬ _) => ?_; rotate_right; refine fun (_ : _ = true) => ?_)
        | ((with_reducible apply val_iteL); rotate_left; refine fun (_ : ¬ _) => ?_; rotate_right; refine fun (_ : _ = true) => ?_)
        | (with_reducible exact wps_pure (ent_val rfl)))
      rename_i b
      refine wps_idx 0 rfl rfl (by (try dsimp only); omega) ?_
      repeat (first
        | (with_reducible refine wps_bindpure ?_)
        | (with_reducible refine wps_assoc ?_)
        | (with_reducible refine wps_nil ?_)
        | (with_reducible refine wps_stepAlloc fun _ => ?_)
        | (with_reducible refine wps_alloc fun _ => ?_)
        | (with_reducible refine wps_newO fun _ => ?_)
        | (refine wps_ld _ (by rfl) ?_)
        | (refine wps_ldG _ _ _ (by rfl) ?_)
        | (refine wps_ldA _ (by rfl) ?_)
        | (refine wps_ldI _ (by rfl) ?_)
        | (refine wps_ldGI _ _ _ (by rfl) ?_)
        | (refine wps_ldAI _ (by rfl) ?_)
        | (refine wps_st (by simp) ?_)
        | (refine wps_stA (by simp) (by simp [Value.oneCell']) ?_)
        | ((with_reducible apply wps_val); apply val_ite; rotate_left; refine fun (_ : ¬ _) => ?_; rotate_right; refine fun (_ : _ = true) => ?_)
        | ((with_reducible apply val_ite); rotate_left; refine fun (_ : ¬ _) => ?_; rotate_right; refine fun (_ : _ = true) => ?_)
        | (with_reducible refine wps_regionH ?_)
        | ((with_reducible apply wps_bindV); apply val_iteL; rotate_left; refine fun (_ : ¬ _) => ?_; rotate_right; refine fun (_ : _ = true) => ?_)
        | ((with_reducible apply val_iteL); rotate_left; refine fun (_ : ¬ _) => ?_; rotate_right; refine fun (_ : _ = true) => ?_)
        | (with_reducible exact wps_pure (ent_val rfl)))
      refine wps_swap (pc_one (b := b) v) ?_
      have hp := hW.put hi v
      refine wps_call2 (fun _ => device_Rack_Write_spec (H := byt ⟨some ⟨b, 0, none⟩, 64, 64⟩ (one v)) rb R ds ps _ _ _ (one v) (Ent.refl _) (by rw [one_len]; omega)) fun e => ?_
      simp only [← star_assoc]
      refine wps_prP fun he => ?_
      rw [hp.1] at he
      subst he
      refine wps_ite (fun h => absurd h (by decide)) (fun _ => ?_)
      refine wps_idxA i rfl hi ?_
      refine wps_st (by simp [eight]; omega) ?_
      rw [eight_set _ hi]
      have hW1 := hp.2
      obtain ⟨last1, hl1⟩ : ∃ l : Nat → Option Int, l = fun q => if q = i then some v else last q := ⟨_, rfl⟩
      have hcell : (fun q => if q = i then v else (last q).getD (sure q)) = fun q => (last1 q).getD (sure q) := by
        funext q; by_cases hq : q = i <;> simp [hq, hl1]
      rw [hcell]
      rw [← hl1] at hW1
      generalize R.write ((i / 4 : Nat) : Int) ((i % 4 : Nat) : Int) (one v) = R1 at *
      refine wps_ite (fun hf => ?_) (fun hf => ?_)
      · have hfl := hW1.flush
        refine wps_callH (fun _ => device_Rack_Flush_spec rb R1 ds ps 0) fun e => ?_
        simp only [← star_assoc]
        refine wps_prP fun he => ?_
        rw [hfl.1] at he
        subst he
        refine wps_bite (fun h => absurd h (by decide)) (fun _ => ?_)
        refine wps_assoc ?_
        refine wps_callH (fun _ => device_Rack_Flush_spec rb (R1.flush 0) ds ps 1) fun e => ?_
        simp only [← star_assoc]
        refine wps_prP fun he => ?_
        rw [hfl.2.1] at he
        subst he
        refine wps_bindpure ?_
        refine wps_ite (fun h => absurd h (by decide)) (fun _ => ?_)
        have hfl2 := hfl.2.2
        generalize hq : (fun q => (last1 q).getD (sure q)) = lv at *
        refine wps_ldA (lv 0, lv 1, lv 2, lv 3, lv 4, lv 5, lv 6, lv 7) (by rfl) ?_
        refine wps_stA (by simp [eight]) (by simp [Value.oneCell']) (wps_pure ?_)
        refine ent_prr (by rw [range_add1 hs (by omega)]; omega) (ent_ex (n + 1) (ent_ex lv (ent_ex (fun _ => none) (ent_ex ((R1.flush 0).flush 1) ?_))))
        refine ent_pickC (by rfl) (ent_pickC (by rfl) ?_)
        repeat (first
          | (with_reducible exact ent_drop)
          | (with_reducible refine ent_pick ?_)
          | (refine ent_pickC (by rfl) ?_)
          | (refine ent_pickS (by rfl) ?_)
          | (refine ent_pickM (by rfl) ?_)
          | (refine ent_prx ?_ ?_; rotate_left)
          | (refine ent_prq ?_))
        all_goals first | exact ⟨range_add1 hs (by omega), by omega, hfl2⟩ | trivial
      · refine wps_pure ?_
        refine ent_prr (by rw [range_add1 hs (by omega)]; omega) (ent_ex (n + 1) (ent_ex sure (ent_ex last1 (ent_ex R1 ?_))))
        repeat (first
          | (with_reducible exact ent_drop)
          | (with_reducible refine ent_pick ?_)
          | (refine ent_pickC (by rfl) ?_)
          | (refine ent_pickS (by rfl) ?_)
          | (refine ent_pickM (by rfl) ?_)
          | (refine ent_prx ?_ ?_; rotate_left)
          | (refine ent_prq ?_))
        all_goals first | exact ⟨range_add1 hs (by omega), by omega, hW1⟩ | trivial
    · refine wps_mapR ?_
      refine wps_call2 (fun _ => device_Rack_Restore_spec (H := intsP y ks) hcv rb R ds ps y ks (Ent.refl _)) fun _ => ?_
      simp only [← star_assoc]
      refine wps_loop (fun s => ex fun n : Nat => pr (s = (n : Int) ∧ n ≤ 8) * pc c9 (eight sure) * pc c10 (eight fun q => (last q).getD (sure q)) * rackP rb (R.restore ks) ds ps) (fun s => (8 - s).toNat) ?_ fun s => ?_
      · refine ent_ex 0 ?_
        repeat (first
          | (with_reducible exact ent_drop)
          | (with_reducible refine ent_pick ?_)
          | (refine ent_pickC (by rfl) ?_)
          | (refine ent_pickS (by rfl) ?_)
          | (refine ent_pickM (by rfl) ?_)
          | (refine ent_prx ?_ ?_; rotate_left)
          | (refine ent_prq ?_))
        all_goals first | exact ⟨rfl, by omega⟩ | trivial
      · refine wps_ex fun n => wps_prP fun ⟨hs, hn⟩ => ?_
        refine wps_ite (fun hc => ?_) (fun hc => ?_)
        · have hlt : n < 8 := by simp only [decide_eq_true_eq] at hc; omega
          obtain ⟨e2, e3⟩ := idx8 hs hlt
          rw [e2, e3]
          obtain ⟨r1, r2⟩ := hW.reads ks hlt
          refine wps_callH (fun _ => device_Rack_Read_spec rb (R.restore ks) ds ps _ _) fun z => ?_
          rw [r1, r2]
          simp only [← star_assoc]
          refine wps_prP fun hz => ?_
          rw [hz]
          generalize hv : (if keepB ks (rank R n) = true then (last n).getD (sure n) else sure n) = v
          refine wps_fact (Ent.trans (ent_right _ _) (own_len _ _ _)) fun ⟨hl1, _⟩ => ?_
          have hl1' : z.1.len = 64 := by simpa [bv, one] using hl1.symm
          have hgo : ∀ g, wps g (emp * pc c9 (eight sure) * pc c10 (eight fun q => (last q).getD (sure q)) * rackP rb (R.restore ks) ds ps * own 1 z.1 (bv (one v))) (pureM (.inl (w64 (s + 1))) : M (Int ⊕ Bool)) (sumPost (fun s' => pr ((8 - s').toNat < (8 - s).toNat) * ex fun n : Nat => pr (s' = (n : Int) ∧ n ≤ 8) * pc c9 (eight sure) * pc c10 (eight fun q => (last q).getD (sure q)) * rackP rb (R.restore ks) ds ps) fun b => pr (b = true)) := by
            intro g
            refine wps_pure ?_
            refine ent_prr (by rw [range_add1 hs (by omega)]; omega) (ent_ex (n + 1) ?_)
            repeat (first
              | (with_reducible exact ent_drop)
              | (with_reducible refine ent_pick ?_)
              | (refine ent_pickC (by rfl) ?_)
              | (refine ent_pickS (by rfl) ?_)
              | (refine ent_pickM (by rfl) ?_)
              | (refine ent_prx ?_ ?_; rotate_left)
              | (refine ent_prq ?_))
            all_goals first | exact ⟨range_add1 hs (by omega), by omega⟩ | trivial
          refine wps_regionH ?_
          refine wps_ite (fun h => absurd h (by decide)) (fun _ => ?_)
          refine wps_ite (fun h => absurd h (by simp [hl1'])) (fun _ => ?_)
          refine wps_rdI 0 v (Ent.trans (ent_right _ _) (own_rsl _ _ _)) (Ent.refl _) rfl rfl ?_
          refine wps_idxA n hs hlt ?_
          refine wps_ldI (sure n) (eight_get _ hlt) ?_
          refine wps_ite (fun h1 => ?_) (fun _ => hgo _)
          refine wps_rdI 0 v (Ent.trans (ent_right _ _) (own_rsl _ _ _)) (Ent.refl _) rfl rfl ?_
          refine wps_idxA n hs hlt ?_
          refine wps_ldI ((last n).getD (sure n)) (eight_get _ hlt) ?_
          refine wps_ite (fun h2 => ?_) (fun _ => hgo _)
          rw [← hv] at h1 h2
          by_cases hk : keepB ks (rank R n) = true
          · rw [if_pos hk] at h2; simp at h2
          · rw [if_neg hk] at h1; simp at h1
        · exact wps_mapR (wps_pure (ent_prq rfl))
end Go.Proofs.Ytldmeimebebllaa
namespace Go.Proofs.Ytldmeimebebllaa
open Go.Mo
set_option linter.unusedVariables false
variable {g : Fr} {cv : CV}
/-- a rack of one disk of two sectors, armed with N calls, of which i have come -/
structure Pw (R : Rk) (N : Int) (i : Nat) : Prop where
  n : R.n = 1
  ns : R.ns = 2
  failed : (R.dk 0).failed = false
  count : (R.dk 0).count = -1
  on : (i : Int) ≤ N → R.off = false ∧ R.count = N - i
  off : N < i → R.off = true
theorem Pw.new {N : Int} (h : 0 ≤ N) : Pw ((Rk.new 1 2).arm N) N 0 := ⟨rfl, rfl, rfl, rfl, fun _ => ⟨rfl, by show maxI N (-1) = _; rw [maxI, if_neg (by omega)]; simp⟩, fun h' => by omega⟩
theorem Pw.step {R : Rk} {N : Int} {i : Nat} (h : Pw R N i) (hi : i < 1000) (hN : N < 9223372036854775808) {s : Int} (hs : 0 ≤ s ∧ s < 2) :
    R.gate 0 s 64 = (if (i : Int) < N then 0 else 12) ∧ Pw (R.gated 0 s 64) N (i + 1) := by
  have hr : ¬ ((0 : Int) < 0 ∨ (0 : Int) ≥ R.n ∨ s < 0 ∨ s ≥ R.ns) := by rw [h.n, h.ns]; omega
  by_cases h1 : (i : Int) ≤ N
  · obtain ⟨ho, hc⟩ := h.on h1
    have hgd : R.gated 0 s 64 = R.ticked := gated_in ho (by rw [h.n]; omega) (by rw [h.ns]; omega)
    have ho' : ¬ R.off = true := by simp [ho]
    rw [hgd]
    by_cases h2 : (i : Int) = N
    · have hc0 : R.count = 0 := by omega
      refine ⟨?_, ?_⟩
      · rw [Rk.gate, if_neg ho', if_neg hr, if_neg (by omega), if_pos hc0, if_neg (by omega)]
      · rw [Rk.ticked, if_pos hc0]
        exact ⟨h.n, h.ns, h.failed, h.count, fun h' => by omega, fun _ => rfl⟩
    · have hc0 : ¬ R.count = 0 := by omega
      have ht : R.ticked = { R with count := maxI (w64 (R.count - 1)) (-1), dk := fun j => (R.dk j).tick } := by rw [Rk.ticked, if_neg hc0]
      have hd : (R.dk 0).tick = R.dk 0 := tickD h.count
      refine ⟨?_, ?_⟩
      · rw [Rk.gate, if_neg ho', if_neg hr, if_neg (by omega), if_neg hc0, ht]
        show (if ((R.dk 0).tick).failed = true then (13 : Int) else 0) = _
        rw [hd, h.failed, if_neg (by simp), if_pos (by omega)]
      · rw [ht]
        refine ⟨h.n, h.ns, ?_, ?_, fun h' => ⟨ho, ?_⟩, fun h' => by omega⟩
        · show ((R.dk 0).tick).failed = false
          rw [hd, h.failed]
        · show ((R.dk 0).tick).count = -1
          rw [hd, h.count]
        · show maxI (w64 (R.count - 1)) (-1) = _
          rw [hc, w64_id (by omega) (by omega), maxI, if_neg (by omega)]; omega
  · have ho := h.off (by omega)
    refine ⟨?_, ?_⟩
    · rw [Rk.gate, if_pos ho, if_neg (by omega)]
    · rw [Rk.gated, if_pos (.inl ho)]
      exact ⟨h.n, h.ns, h.failed, h.count, fun h' => by omega, fun _ => ho⟩
theorem Pw.write {R : Rk} {N : Int} {i : Nat} (h : Pw R N i) (hi : i < 1000) (hN : N < 9223372036854775808) {s : Int} (hs : 0 ≤ s ∧ s < 2) {b : List Int} (hb : b.length = 64) :
    R.gate 0 s b.length = (if (i : Int) < N then 0 else 12) ∧ Pw (R.write 0 s b) N (i + 1) := by
  have hp := h.step hi hN hs
  rw [hb]
  refine ⟨hp.1, ?_⟩
  rw [Rk.write, hb]
  split
  · obtain ⟨a1, a2, a3, a4, a5, a6⟩ := hp.2
    refine ⟨a1, a2, ?_, ?_, a5, a6⟩
    · exact a3
    · exact a4
  · exact hp.2
theorem Pw.flush {R : Rk} {N : Int} {i : Nat} (h : Pw R N i) (hi : i < 1000) (hN : N < 9223372036854775808) :
    R.gate 0 0 64 = (if (i : Int) < N then 0 else 12) ∧ Pw (R.flush 0) N (i + 1) := by
  have hp := h.step hi hN (s := 0) (by omega)
  refine ⟨hp.1, ?_⟩
  rw [Rk.flush]
  split
  · obtain ⟨a1, a2, a3, a4, a5, a6⟩ := hp.2
    exact ⟨a1, a2, a3, a4, a5, a6⟩
  · exact hp.2
theorem Pw.wrong {R : Rk} {N : Int} {i : Nat} (h : Pw R N i) {b : List Int} : R.gate 0 5 b.length = (if (i : Int) ≤ N then 11 else 12) ∧ R.write 0 5 b = R := by
  have hr : ((0 : Int) < 0 ∨ (0 : Int) ≥ R.n ∨ (5 : Int) < 0 ∨ (5 : Int) ≥ R.ns) := by rw [h.n, h.ns]; omega
  have hgd : R.gated 0 5 b.length = R := by rw [Rk.gated, if_pos (.inr (.inl hr))]
  by_cases h1 : (i : Int) ≤ N
  · obtain ⟨ho, _⟩ := h.on h1
    have hg : R.gate 0 5 b.length = 11 := by rw [Rk.gate, if_neg (by simp [ho]), if_pos hr]
    refine ⟨by rw [hg, if_pos h1], ?_⟩
    rw [Rk.write, if_neg (by rw [hg]; omega), hgd]
  · have ho := h.off (by omega)
    have hg : R.gate 0 5 b.length = 12 := by rw [Rk.gate, if_pos ho]
    refine ⟨by rw [hg, if_neg h1], ?_⟩
    rw [Rk.write, if_neg (by rw [hg]; omega), hgd]
theorem law02_DevicePower_spec (hcv : KeysOk cv) (N : Int) (hN : N < 9223372036854775808) (x : Slc) (xs : List Int) : wps g (intsP x xs) (law02_DevicePower cv N x) (fun b => pr (b = true)) := by
  unfold law02_DevicePower
  refine wps_callE (fun _ => law02_alive_spec hcv) fun a => ?_
  refine wps_prP fun ha => ?_
  subst ha
  refine wps_fact (ilen_of (H := intsP x xs) (s := x) (b := xs) (Ent.refl _)) fun hl => ?_
  refine wps_ite (fun h => absurd h (by decide)) (fun _ => ?_)
  repeat (first
    | (with_reducible refine wps_bindpure ?_)
    | (with_reducible refine wps_assoc ?_)
    | (with_reducible refine wps_nil ?_)
    | (with_reducible refine wps_stepAlloc fun _ => ?_)
    | (with_reducible refine wps_alloc fun _ => ?_)
    | (with_reducible refine wps_newO fun _ => ?_)
    | (refine wps_ld _ (by rfl) ?_)
    | (refine wps_ldG _ _ _ (by rfl) ?_)
    | (refine wps_ldA _ (by rfl) ?_)
    | (refine wps_ldI _ (by rfl) ?_)
    | (refine wps_ldGI _ _ _ (by rfl) ?_)
    | (refine wps_ldAI _ (by rfl) ?_)
    | (refine wps_st (by simp) ?_)
    | (refine wps_stA (by simp) (by simp [Value.oneCell']) ?_)
    | ((with_reducible apply wps_val); apply val_ite; rotate_left; refine fun (_ : ¬ _) => ?_; rotate_right; refine fun (_ : _ = true) => ?_)
    | ((with_reducible apply val_ite); rotate_left; refine fun (_ : ¬ _) => ?_; rotate_right; refine fun (_ : _ = true) => ?_)
    | (with_reducible refine wps_regionH ?_)
    | ((with_reducible apply wps_bindV); apply val_iteL; rotate_left; refine fun (_ : ¬ _) => ?_; rotate_right; refine fun (_ : _ = true) => ?_)
    | ((with_reducible apply val_iteL); rotate_left; refine fun (_ : ¬ _) => ?_; rotate_right; refine fun (_ : _ = true) => ?_)
    | (with_reducible exact wps_pure (ent_val rfl)))
  refine wps_ite (fun _ => wps_pure (ent_prq rfl)) (fun hle => ?_)
  obtain ⟨hle', hN0⟩ : xs.length ≤ 300 ∧ 0 ≤ N := by
    by_cases h : (x.len : Int) > 300
    · simp [h] at hle
    · simp [h] at hle; omega
  refine wps_callE (fun _ => device_New_spec 1 2) fun z => ?_
  rw [if_neg (by decide), show Rk.new (Int.toNat 1) (Int.toNat 2) = Rk.new 1 2 from rfl]
  refine wps_exP fun rb => ?_
  simp only [← star_assoc]
  refine wps_prP fun hz => ?_
  subst hz
  unfold rack
  refine wps_exP fun ds => wps_exP fun ps => ?_
  repeat (first
    | (with_reducible refine wps_bindpure ?_)
    | (with_reducible refine wps_assoc ?_)
    | (with_reducible refine wps_nil ?_)
    | (with_reducible refine wps_stepAlloc fun _ => ?_)
    | (with_reducible refine wps_alloc fun _ => ?_)
    | (with_reducible refine wps_newO fun _ => ?_)
    | (refine wps_ld _ (by rfl) ?_)
    | (refine wps_ldG _ _ _ (by rfl) ?_)
    | (refine wps_ldA _ (by rfl) ?_)
    | (refine wps_ldI _ (by rfl) ?_)
    | (refine wps_ldGI _ _ _ (by rfl) ?_)
    | (refine wps_ldAI _ (by rfl) ?_)
    | (refine wps_st (by simp) ?_)
    | (refine wps_stA (by simp) (by simp [Value.oneCell']) ?_)
    | ((with_reducible apply wps_val); apply val_ite; rotate_left; refine fun (_ : ¬ _) => ?_; rotate_right; refine fun (_ : _ = true) => ?_)
    | ((with_reducible apply val_ite); rotate_left; refine fun (_ : ¬ _) => ?_; rotate_right; refine fun (_ : _ = true) => ?_)
    | (with_reducible refine wps_regionH ?_)
    | ((with_reducible apply wps_bindV); apply val_iteL; rotate_left; refine fun (_ : ¬ _) => ?_; rotate_right; refine fun (_ : _ = true) => ?_)
    | ((with_reducible apply val_iteL); rotate_left; refine fun (_ : ¬ _) => ?_; rotate_right; refine fun (_ : _ = true) => ?_)
    | (with_reducible exact wps_pure (ent_val rfl)))
  refine wps_ite (fun h => absurd h (by simp)) (fun _ => ?_)
  refine wps_callH (fun _ => device_Rack_Arm_spec rb (Rk.new 1 2) ds ps N) fun _ => ?_
  repeat (first
    | (with_reducible refine wps_bindpure ?_)
    | (with_reducible refine wps_assoc ?_)
    | (with_reducible refine wps_nil ?_)
    | (with_reducible refine wps_stepAlloc fun _ => ?_)
    | (with_reducible refine wps_alloc fun _ => ?_)
    | (with_reducible refine wps_newO fun _ => ?_)
    | (refine wps_ld _ (by rfl) ?_)
    | (refine wps_ldG _ _ _ (by rfl) ?_)
    | (refine wps_ldA _ (by rfl) ?_)
    | (refine wps_ldI _ (by rfl) ?_)
    | (refine wps_ldGI _ _ _ (by rfl) ?_)
    | (refine wps_ldAI _ (by rfl) ?_)
    | (refine wps_st (by simp) ?_)
    | (refine wps_stA (by simp) (by simp [Value.oneCell']) ?_)
    | ((with_reducible apply wps_val); apply val_ite; rotate_left; refine fun (_ : ¬ _) => ?_; rotate_right; refine fun (_ : _ = true) => ?_)
    | ((with_reducible apply val_ite); rotate_left; refine fun (_ : ¬ _) => ?_; rotate_right; refine fun (_ : _ = true) => ?_)
    | (with_reducible refine wps_regionH ?_)
    | ((with_reducible apply wps_bindV); apply val_iteL; rotate_left; refine fun (_ : ¬ _) => ?_; rotate_right; refine fun (_ : _ = true) => ?_)
    | ((with_reducible apply val_iteL); rotate_left; refine fun (_ : ¬ _) => ?_; rotate_right; refine fun (_ : _ = true) => ?_)
    | (with_reducible exact wps_pure (ent_val rfl)))
  rename_i c
  refine wps_swap (A := pc c (List.replicate 64 (Value.int .u8 0))) (B := byt ⟨some ⟨c, 0, none⟩, 64, 64⟩ noughts) (Ent.trans (Ent.trans (pc_own (n := 64) (z := 1) (by simp)) (own_rsl _ _ _)) (Ent.of_eq (by rw [byt, bv_noughts]))) ?_
  refine wps_loop (fun s => ex fun n : Nat => ex fun R : Rk => pr (s = (n : Int) ∧ n ≤ xs.length ∧ Pw R N n) * intsP x xs * byt ⟨some ⟨c, 0, none⟩, 64, 64⟩ noughts * rackP rb R ds ps) (fun s => (xs.length - s).toNat) ?_ fun s => ?_
  · refine ent_ex 0 (ent_ex ((Rk.new 1 2).arm N) ?_)
    repeat (first
      | (with_reducible exact ent_drop)
      | (with_reducible refine ent_pick ?_)
      | (refine ent_pickC (by rfl) ?_)
      | (refine ent_pickS (by rfl) ?_)
      | (refine ent_pickM (by rfl) ?_)
      | (refine ent_prx ?_ ?_; rotate_left)
      | (refine ent_prq ?_))
    all_goals first | exact ⟨rfl, by omega, Pw.new hN0⟩ | trivial
  · refine wps_ex fun n => wps_ex fun R => wps_prP fun ⟨hs, hn, hP⟩ => ?_
    refine wps_ite (fun hc => ?_) (fun hc => ?_)
    · have hlt : n < xs.length := by simp only [decide_eq_true_eq] at hc; omega
      refine wps_rdS n xs[n] hs (by simp [zv]) ?_
      generalize bAnd .i64 xs[n] 3 = q
      refine wps_bindS (R := fun e => ex fun R' : Rk => pr (e = (if (n : Int) < N then 0 else 12) ∧ Pw R' N (n + 1)) * intsP x xs * byt ⟨some ⟨c, 0, none⟩, 64, 64⟩ noughts * rackP rb R' ds ps) ?_ fun e => ?_
      · have hfin : ∀ (e : Int) (R' : Rk), (e = (if (n : Int) < N then 0 else 12) ∧ Pw R' N (n + 1)) → Ent (emp * intsP x xs * byt ⟨some ⟨c, 0, none⟩, 64, 64⟩ noughts * rackP rb R' ds ps) (ex fun R' : Rk => pr (e = (if (n : Int) < N then 0 else 12) ∧ Pw R' N (n + 1)) * intsP x xs * byt ⟨some ⟨c, 0, none⟩, 64, 64⟩ noughts * rackP rb R' ds ps) := by
          intro e R' he
          refine ent_ex R' ?_
          repeat (first
            | (with_reducible exact ent_drop)
            | (with_reducible refine ent_pick ?_)
            | (refine ent_pickC (by rfl) ?_)
            | (refine ent_pickS (by rfl) ?_)
            | (refine ent_pickM (by rfl) ?_)
            | (refine ent_prx ?_ ?_; rotate_left)
            | (refine ent_prq ?_))
          all_goals first | exact he | trivial
        have hwr : ∀ g (s : Int), 0 ≤ s ∧ s < 2 → ∀ k : Int → M (Int ⊕ (Int ⊕ Bool)), (∀ e, k e = pureM (.inl e)) → wps g (emp * intsP x xs * byt ⟨some ⟨c, 0, none⟩, 64, 64⟩ noughts * rackP rb R ds ps) (bindM (device_Rack_Write (ptr rb) 0 s ⟨some ⟨c, 0, none⟩, 64, 64⟩) k)
            (sumPost (fun e => ex fun R' : Rk => pr (e = (if (n : Int) < N then 0 else 12) ∧ Pw R' N (n + 1)) * intsP x xs * byt ⟨some ⟨c, 0, none⟩, 64, 64⟩ noughts * rackP rb R' ds ps) (sumPost (fun s' => pr ((xs.length - s').toNat < (xs.length - (n : Int)).toNat) * ex fun n : Nat => ex fun R : Rk => pr (s' = (n : Int) ∧ n ≤ xs.length ∧ Pw R N n) * intsP x xs * byt ⟨some ⟨c, 0, none⟩, 64, 64⟩ noughts * rackP rb R ds ps) fun b => pr (b = true))) := by
          intro g s hs k hk
          have hw := hP.write (by omega) hN hs (b := noughts) (by decide)
          refine wps_call2 (fun _ => device_Rack_Write_spec (H := byt ⟨some ⟨c, 0, none⟩, 64, 64⟩ noughts) rb R ds ps 0 s _ noughts (Ent.refl _) (by decide)) fun e => ?_
          simp only [← star_assoc]
          refine wps_prP fun he => ?_
          rw [hw.1] at he
          rw [hk]
          exact wps_pure (hfin _ _ ⟨he, hw.2⟩)
        subst hs
        refine wps_ite (fun h0 => ?_) (fun h0 => ?_)
        · have hf := hP.flush (by omega) hN
          refine wps_callH (fun _ => device_Rack_Flush_spec rb R ds ps 0) fun e => ?_
          simp only [← star_assoc]
          refine wps_prP fun he => ?_
          rw [hf.1] at he
          exact wps_pure (hfin _ _ ⟨he, hf.2⟩)
        · refine wps_ite (fun h1 => ?_) (fun h1 => ?_)
          · have hw := hP.wrong (b := noughts)
            refine wps_call2 (fun _ => device_Rack_Write_spec (H := byt ⟨some ⟨c, 0, none⟩, 64, 64⟩ noughts) rb R ds ps 0 5 _ noughts (Ent.refl _) (by decide)) fun e => ?_
            simp only [← star_assoc]
            refine wps_prP fun he => ?_
            rw [hw.1] at he
            rw [hw.2]
            refine wps_val (v := false) ?_ ?_
            · refine wps_ite (fun h => wps_pure (ent_val ?_)) (fun h => wps_pure (ent_val rfl))
              by_cases h2 : (n : Int) ≤ N
              · rw [if_pos h2] at he; subst he; simp at h
              · simp; omega
            · exact wps_ite (fun h => absurd h (by simp)) (fun _ => hwr _ 1 (by omega) _ fun _ => rfl)
          · exact hwr _ 0 (by omega) _ fun _ => rfl
      · refine wps_ex fun R' => wps_prP fun ⟨he, hP'⟩ => ?_
        refine wps_ite (fun h => ?_) (fun h => wps_pure ?_)
        · exfalso
          rw [he, hs] at h
          by_cases h2 : (n : Int) < N
          · have : ¬ (n : Int) ≥ N := by omega
            simp [h2, this] at h
          · have : (n : Int) ≥ N := by omega
            simp [h2, this] at h
        · refine ent_prr (by rw [range_add1 hs (by omega)]; omega) (ent_ex (n + 1) (ent_ex R' ?_))
          repeat (first
            | (with_reducible exact ent_drop)
            | (with_reducible refine ent_pick ?_)
            | (refine ent_pickC (by rfl) ?_)
            | (refine ent_pickS (by rfl) ?_)
            | (refine ent_pickM (by rfl) ?_)
            | (refine ent_prx ?_ ?_; rotate_left)
            | (refine ent_prq ?_))
          all_goals first | exact ⟨range_add1 hs (by omega), by omega, hP'⟩ | trivial
    · have hne : n = xs.length := by simp only [decide_eq_true_eq] at hc; omega
      refine wps_mapR ?_
      refine wps_callH (fun _ => device_Rack_Read_spec rb R ds ps 0 0) fun z => ?_
      simp only [← star_assoc]
      refine wps_prP fun hz => ?_
      refine wps_pure (ent_prq ?_)
      have hr : ¬ ((0 : Int) < 0 ∨ (0 : Int) ≥ R.n ∨ (0 : Int) < 0 ∨ (0 : Int) ≥ R.ns) := by rw [hP.n, hP.ns]; omega
      rw [hz]
      by_cases h1 : (n : Int) ≤ N
      · have : ¬ (x.len : Int) > N := by omega
        obtain ⟨ho, _⟩ := hP.on h1
        rw [Rk.rdErr, if_neg (by simp [ho]), if_neg hr, if_neg (by show ¬ (R.dk 0).failed = true; simp [hP.failed])]
        simp [this]
      · have : (x.len : Int) > N := by omega
        rw [Rk.rdErr, if_pos (hP.off (by omega))]
        simp [this]
end Go.Proofs.Ytldmeimebebllaa
namespace Go.Proofs.Ytldmeimebebllaa
open Go.Mo
set_option linter.unusedVariables false
variable {g : Fr} {cv : CV}
/-- something that a rack is told -/
structure CallA where
  what : Int
  disk : Int
  n : Int
  ds : Slc
  data : List Int
  ks : Slc
  keeps : List Int
def CallA.cells (c : CallA) : List Value := [.int .i64 c.what, .int .i64 c.disk, .int .i64 c.n, .slice c.ds.base c.ds.len c.ds.cap, .slice c.ks.base c.ks.len c.ks.cap]
def CallA.t (c : CallA) : Int × Int × Int × Slc × Slc := (c.what, c.disk, c.n, c.ds, c.ks)
structure CallA.ok (c : CallA) : Prop where
  n : c.n < 9223372036854775808
  data : c.data.length ≤ 140737488355328
  keeps : c.keeps.length ≤ 140737488355328
def callP (c : CallA) : HP := pr c.ok * byt c.ds c.data * intsP c.ks c.keeps
instance (c : CallA) : Pers (callP c) := by unfold callP; infer_instance
def callsP (s : Slc) (l : List CallA) : HP := rsl 5 s (l.flatMap CallA.cells) * al fun i : Nat => al fun c : CallA => imp (l[i]? = some c) (callP c)
instance (s : Slc) (l : List CallA) : Pers (callsP s l) := by unfold callsP; infer_instance
theorem cells_len (c : CallA) : c.cells.length = 5 := rfl
theorem callsP_rsl (s : Slc) (l : List CallA) : Ent (callsP s l) (rsl 5 s (l.flatMap CallA.cells)) := ent_left _ _
theorem callsP_get {s : Slc} {l : List CallA} {i : Nat} {c : CallA} (h : l[i]? = some c) : Ent (callsP s l) (callP c) := fun o ho => ent_right _ _ o ho i c h
theorem callsP_len (s : Slc) (l : List CallA) : Ent (callsP s l) (pr (l.length = s.len)) := Ent.trans (callsP_rsl s l) (Ent.trans (rsl_len _ _ _) fun o ho => by
  have : (l.flatMap CallA.cells).length = s.len * 5 := ho
  rw [flat_len cells_len] at this
  show l.length = s.len
  omega)
theorem callP_ok (c : CallA) : Ent (callP c) (pr c.ok) := Ent.trans (ent_left _ _) (ent_left _ _)
theorem callP_data (c : CallA) : Ent (callP c) (byt c.ds c.data) := Ent.trans (ent_left _ _) (ent_right _ _)
theorem callP_keeps (c : CallA) : Ent (callP c) (intsP c.ks c.keeps) := ent_right _ _
instance (mb : Nat) (R : Rk) (l1 l2 l3 l4 : Slc) : RdC mb (refQ mb R l1 l2 l3 l4) [.int .i64 R.n, .int .i64 R.ns, vS l1, vS l2, vS l3, vS l4, .int .i64 R.count, .bool R.off] :=
  ⟨ex_ent fun sl => ex_ent fun cl => ex_ent fun cs => Ent.trans (ent_right _ _) (pc_ro _ _)⟩
/-- what great lets through -/
structure Fit (l : List CallA) : Prop where
  len : l.length ≤ 200
  data : ∀ c ∈ l, c.data.length ≤ 20000
  keeps : ∀ c ∈ l, c.keeps.length ≤ 20000
theorem law02_great_spec (d s : Int) (x : Slc) (l : List CallA) : wps g (callsP x l) (law02_great d s x) (fun b => pr (b = false → Fit l ∧ d ≤ 20 ∧ (s ≤ 100 ∨ 4096 < s)) * callsP x l) := by
  unfold law02_great
  refine wps_fact (callsP_len x l) fun hl => ?_
  refine wps_val (v := decide ((x.len : Int) > 200 ∨ d > 20)) ?_ ?_
  · apply val_eq
    · repeat (first
        | (with_reducible refine wps_bindpure ?_)
        | (with_reducible refine wps_assoc ?_)
        | (with_reducible refine wps_nil ?_)
        | (with_reducible refine wps_stepAlloc fun _ => ?_)
        | (with_reducible refine wps_alloc fun _ => ?_)
        | (with_reducible refine wps_newO fun _ => ?_)
        | (refine wps_ld _ (by rfl) ?_)
        | (refine wps_ldG _ _ _ (by rfl) ?_)
        | (refine wps_ldA _ (by rfl) ?_)
        | (refine wps_ldI _ (by rfl) ?_)
        | (refine wps_ldGI _ _ _ (by rfl) ?_)
        | (refine wps_ldAI _ (by rfl) ?_)
        | (refine wps_st (by simp) ?_)
        | (refine wps_stA (by simp) (by simp [Value.oneCell']) ?_)
        | ((with_reducible apply wps_val); apply val_ite; rotate_left; refine fun (_ : ¬ _) => ?_; rotate_right; refine fun (_ : _ = true) => ?_)
        | ((with_reducible apply val_ite); rotate_left; refine fun (_ : ¬ _) => ?_; rotate_right; refine fun (_ : _ = true) => ?_)
        | (with_reducible refine wps_regionH ?_)
        | ((with_reducible apply wps_bindV); apply val_iteL; rotate_left; refine fun (_ : ¬ _) => ?_; rotate_right; refine fun (_ : _ = true) => ?_)
        | ((with_reducible apply val_iteL); rotate_left; refine fun (_ : ¬ _) => ?_; rotate_right; refine fun (_ : _ = true) => ?_)
        | (with_reducible exact wps_pure (ent_val rfl)))
    · by_cases a : (x.len : Int) > 200 <;> simp [a]
  refine wps_val (v := decide (((x.len : Int) > 200 ∨ d > 20) ∨ s > 100 ∧ s ≤ 4096)) ?_ ?_
  · refine wps_ite (fun h => wps_pure (ent_val (by simp at h; simp [h]))) (fun h => ?_)
    refine wps_val (v := decide (s > 100 ∧ s ≤ 4096)) ?_ (wps_pure (ent_val (by simp at h; simp [h]; omega)))
    apply val_eq
    · repeat (first
        | (with_reducible refine wps_bindpure ?_)
        | (with_reducible refine wps_assoc ?_)
        | (with_reducible refine wps_nil ?_)
        | (with_reducible refine wps_stepAlloc fun _ => ?_)
        | (with_reducible refine wps_alloc fun _ => ?_)
        | (with_reducible refine wps_newO fun _ => ?_)
        | (refine wps_ld _ (by rfl) ?_)
        | (refine wps_ldG _ _ _ (by rfl) ?_)
        | (refine wps_ldA _ (by rfl) ?_)
        | (refine wps_ldI _ (by rfl) ?_)
        | (refine wps_ldGI _ _ _ (by rfl) ?_)
        | (refine wps_ldAI _ (by rfl) ?_)
        | (refine wps_st (by simp) ?_)
        | (refine wps_stA (by simp) (by simp [Value.oneCell']) ?_)
        | ((with_reducible apply wps_val); apply val_ite; rotate_left; refine fun (_ : ¬ _) => ?_; rotate_right; refine fun (_ : _ = true) => ?_)
        | ((with_reducible apply val_ite); rotate_left; refine fun (_ : ¬ _) => ?_; rotate_right; refine fun (_ : _ = true) => ?_)
        | (with_reducible refine wps_regionH ?_)
        | ((with_reducible apply wps_bindV); apply val_iteL; rotate_left; refine fun (_ : ¬ _) => ?_; rotate_right; refine fun (_ : _ = true) => ?_)
        | ((with_reducible apply val_iteL); rotate_left; refine fun (_ : ¬ _) => ?_; rotate_right; refine fun (_ : _ = true) => ?_)
        | (with_reducible exact wps_pure (ent_val rfl)))
    · by_cases a : s > 100 <;> simp [a]
  refine wps_ite (fun h => wps_pure (ent_prr (fun h => by cases h) (Ent.refl _))) (fun h => ?_)
  have h' : ¬ (((x.len : Int) > 200 ∨ d > 20) ∨ s > 100 ∧ s ≤ 4096) := by simpa using h
  have hlen : l.length ≤ 200 := by omega
  refine wps_loop (fun st => ex fun i : Nat => pr (st.2 = (i : Int) ∧ i ≤ l.length ∧ 0 ≤ st.1 ∧ st.1 ≤ 20000 ∧ ∀ c ∈ l.take i, c.data.length ≤ 20000 ∧ c.keeps.length ≤ 20000) * callsP x l) (fun st => (l.length - st.2).toNat) ?_ fun st => ?_
  · exact ent_ex 0 (ent_prr ⟨rfl, by omega, by (try dsimp only); omega, by (try dsimp only); omega, by simp⟩ (Ent.refl _))
  · refine wps_ex fun i => wps_prP fun ⟨hi, hn, h0, h1, hall⟩ => ?_
    rw [emp_star]
    refine wps_ite (fun hc => ?_) (fun hc => ?_)
    · have hlt : i < l.length := by simp only [decide_eq_true_eq] at hc; omega
      have hget : l[i]? = some l[i] := List.getElem?_eq_getElem hlt
      refine wps_fact (Ent.trans (callsP_get hget) (callP_ok _)) fun hok => ?_
      refine wps_fact (Ent.trans (callsP_get hget) (Ent.trans (callP_data _) (len_of (Ent.refl _)))) fun hdl => ?_
      refine wps_fact (Ent.trans (callsP_get hget) (Ent.trans (callP_keeps _) (ilen_of (Ent.refl _)))) fun hkl => ?_
      have hd := hok.data
      have hk := hok.keeps
      refine wps_regionH ?_
      refine wps_rdFI (f := 3) i l[i].ds (callsP_rsl x l) (Ent.refl _) hi (by omega) (by rw [flat_get cells_len hget (by omega)]; rfl) ?_
      refine wps_rdFI (f := 4) i l[i].ks (callsP_rsl x l) (Ent.refl _) hi (by omega) (by rw [flat_get cells_len hget (by omega)]; rfl) ?_
      rw [← hdl, ← hkl, w64_id (n := ((l[i].data.length : Nat) : Int) + _) (by omega) (by omega), w64_id (by omega) (by omega)]
      refine wps_ite (fun hb => wps_mapR (wps_pure (ent_prr (fun h => by cases h) (Ent.refl _)))) (fun hb => wps_pure ?_)
      have hb' : ¬ (st.1 + ((l[i].data.length : Nat) + (l[i].keeps.length : Nat) : Int) > 20000) := by simpa using hb
      refine ent_prr (by (try dsimp only); rw [range_add1 hi (by omega)]; omega) (ent_ex (i + 1) (ent_prr ⟨range_add1 hi (by omega), by omega, by (try dsimp only); omega, by (try dsimp only); omega, fun c hc => ?_⟩ (Ent.refl _)))
      rw [List.take_add_one, hget] at hc
      rcases List.mem_append.1 hc with hc | hc
      · exact hall c hc
      · have : c = l[i] := by simpa using hc
        subst this
        omega
    · have hie : i = l.length := by simp only [decide_eq_true_eq] at hc; omega
      rw [hie, List.take_length] at hall
      exact wps_mapR (wps_pure (ent_prr (fun _ => ⟨⟨hlen, fun c hc => (hall c hc).1, fun c hc => (hall c hc).2⟩, by omega, by omega⟩) (Ent.refl _)))
/-- what a call does to a rack -/
def cstep (R : Rk) (c : CallA) : Rk :=
  if c.what = 1 then R.write c.disk c.n c.data else if c.what = 2 then R.flush c.disk else if c.what = 3 then R.arm c.n else if c.what = 4 then R.doom c.disk c.n
  else if c.what = 5 then R.restore c.keeps else if c.what = 6 then R.load c.disk c.data else R
end Go.Proofs.Ytldmeimebebllaa
namespace Go.Proofs.Ytldmeimebebllaa
open Go.Mo
set_option linter.unusedVariables false
variable {g : Fr} {cv : CV}
structure Rk.good (R : Rk) : Prop where
  ok : ∀ j, j < R.n → (R.dk j).ok R.ns
theorem dskAt_ok {ns p : Nat} {D : Dk} : Ent (dskAt ns p D) (pr (D.ok ns)) := ex_ent fun ls => ex_ent fun mb => ex_ent fun sl => ex_ent fun sc => fun o ho => by
  have := ent_left _ _ o (ent_left _ _ o (ent_left _ _ o (ent_left _ _ o ho)))
  exact this.2.2
theorem rackP_good {rb : Nat} {R : Rk} {ds : Slc} {ps : List Nat} : Ent (rackP rb R ds ps) (pr R.good) := fun o ho => ⟨fun j hj => by
  rw [rackP_focus rb R ds ps hj] at ho
  exact dskAt_ok o (ent_right _ _ o ho)⟩
theorem refQ_good {mb : Nat} {R : Rk} {l1 l2 l3 l4 : Slc} : Ent (refQ mb R l1 l2 l3 l4) (pr R.good) := ex_ent fun sl => ex_ent fun cl => ex_ent fun cs => fun o ho => by
  have h : RQ R l1 l2 l3 l4 sl cl cs := ent_left _ _ o (ent_left _ _ o (ent_left _ _ o (ent_left _ _ o (ent_left _ _ o (ent_left _ _ o (ent_left _ _ o ho))))))
  exact ⟨h.ok⟩
theorem Rk.good.rd {R : Rk} (h : R.good) (k s : Int) : (R.rd k s).length ≤ 64 := by
  rw [Rk.rd]
  split
  · rename_i he
    have hx : ¬ R.off = true ∧ ¬ (k < 0 ∨ k ≥ R.n ∨ s < 0 ∨ s ≥ R.ns) := by
      unfold Rk.rdErr at he
      by_cases ho : R.off = true
      · rw [if_pos ho] at he; cases he
      · rw [if_neg ho] at he
        refine ⟨ho, fun hr => ?_⟩
        rw [if_pos hr] at he; cases he
    have hok := h.ok k.toNat (by omega)
    unfold Dk.sec
    cases hc : (R.dk k.toNat).cached s with
    | some b => have := (hok.2 s b hc).1; simp only; omega
    | none => have := hok.1 s.toNat (by omega); simp only; omega
  · simp
theorem Rk.good.lst {R : Rk} (h : R.good) (k s : Int) : (R.lst k s).length ≤ 64 := by
  rw [Rk.lst]
  split
  · rename_i he
    have hx : ¬ (k < 0 ∨ k ≥ R.n ∨ s < 0 ∨ s ≥ R.ns) := by
      intro hr
      rw [Rk.lErr, if_pos hr] at he; cases he
    have := (h.ok k.toNat (by omega)).1 s.toNat (by omega)
    omega
  · simp
theorem told_end {rb : Nat} {R R1 R' R1' : Rk} {ds : Slc} {ps : List Nat} {mb : Nat} {l1 l2 l3 l4 : Slc} {c : CallA} {b : Bool} {F : HP} (h1 : R = R' → b = true) (h2 : R1 = cstep R c) (h3 : R1' = cstep R' c) (h4 : Ent F (callP c * rackP rb R1 ds ps * refQ mb R1' l1 l2 l3 l4)) :
    Ent F (pr (R = R' → b = true) * callP c * rackP rb (cstep R c) ds ps * refQ mb (cstep R' c) l1 l2 l3 l4) := by
  subst h2 h3
  refine Ent.trans h4 (Ent.trans (ent_pr h1) (Ent.of_eq ?_))
  simp only [star_assoc]
theorem law02_told_spec (hcv : KeysOk cv) (rb : Nat) (R : Rk) (ds : Slc) (ps : List Nat) (mb : Nat) (R' : Rk) (l1 l2 l3 l4 : Slc) (c : CallA) (hd : c.data.length ≤ 20000) (hk : c.keeps.length ≤ 20000) (hn : c.n < 9223372036854775808) :
    wps g (callP c * rackP rb R ds ps * refQ mb R' l1 l2 l3 l4) (law02_told cv (ptr rb) (ptr mb) (c.what, c.disk, c.n, c.ds, c.ks)) (fun b => pr (R = R' → b = true) * callP c * rackP rb (cstep R c) ds ps * refQ mb (cstep R' c) l1 l2 l3 l4) := by
  unfold law02_told
  refine wps_fact (Ent.trans (ent_left _ _) (Ent.trans (ent_right _ _) rackP_good)) fun hg => ?_
  refine wps_fact (Ent.trans (ent_right _ _) refQ_good) fun hg' => ?_
  refine wps_alloc fun x5 => ?_
  refine wps_eq (H' := callP c * rackP rb R ds ps * refQ mb R' l1 l2 l3 l4 * pc x5 c.cells) rfl ?_
  refine wps_ld c.what (by rfl) ?_
  refine wps_bindS (R := fun _ => callP c * rackP rb (cstep R c) ds ps * refQ mb (cstep R' c) l1 l2 l3 l4 * pc x5 c.cells) ?_ fun _ => ?_
  · refine wps_ite (fun h0 => ?_) (fun h0 => ?_)
    · have hw : c.what = 0 := by simpa using h0
      have e1 : ∀ R, cstep R c = R := fun R => by simp [cstep, hw]
      refine wps_ld c.disk (by rfl) ?_
      refine wps_ld c.n (by rfl) ?_
      refine wps_callH (fun _ => device_Rack_Read_spec rb R ds ps c.disk c.n) fun a => ?_
      simp only [← star_assoc]
      refine wps_prP fun ha => ?_
      refine wps_ld c.disk (by rfl) ?_
      refine wps_ld c.n (by rfl) ?_
      refine wps_callH (fun _ => ref02_Read_spec mb R' l1 l2 l3 l4 c.disk c.n) fun b => ?_
      simp only [← star_assoc]
      refine wps_prP fun hb => ?_
      have hl1 := hg.rd c.disk c.n
      refine wps_val (ref00_SameBytes_val (x := R.rd c.disk c.n) (y := R'.rd c.disk c.n) (Ent.trans (ent_pick1 (A := own 1 a.1 (bv (R.rd c.disk c.n)))) (own_rsl _ _ _)) (Ent.trans (ent_pick1 (A := own 1 b.1 (bv (R'.rd c.disk c.n)))) (own_rsl _ _ _)) (by omega)) ?_
      refine wps_val (v := if decide (R.rd c.disk c.n = R'.rd c.disk c.n) = true then a.2 == b.2 else false) ?_ ?_
      · repeat (first
          | (with_reducible refine wps_bindpure ?_)
          | (with_reducible refine wps_assoc ?_)
          | (with_reducible refine wps_nil ?_)
          | (with_reducible refine wps_stepAlloc fun _ => ?_)
          | (with_reducible refine wps_alloc fun _ => ?_)
          | (with_reducible refine wps_newO fun _ => ?_)
          | (refine wps_ld _ (by rfl) ?_)
          | (refine wps_ldG _ _ _ (by rfl) ?_)
          | (refine wps_ldA _ (by rfl) ?_)
          | (refine wps_ldI _ (by rfl) ?_)
          | (refine wps_ldGI _ _ _ (by rfl) ?_)
          | (refine wps_ldAI _ (by rfl) ?_)
          | (refine wps_st (by simp) ?_)
          | (refine wps_stA (by simp) (by simp [Value.oneCell']) ?_)
          | ((with_reducible apply wps_val); apply val_ite; rotate_left; refine fun (_ : ¬ _) => ?_; rotate_right; refine fun (_ : _ = true) => ?_)
          | ((with_reducible apply val_ite); rotate_left; refine fun (_ : ¬ _) => ?_; rotate_right; refine fun (_ : _ = true) => ?_)
          | (with_reducible refine wps_regionH ?_)
          | ((with_reducible apply wps_bindV); apply val_iteL; rotate_left; refine fun (_ : ¬ _) => ?_; rotate_right; refine fun (_ : _ = true) => ?_)
          | ((with_reducible apply val_iteL); rotate_left; refine fun (_ : ¬ _) => ?_; rotate_right; refine fun (_ : _ = true) => ?_)
          | (with_reducible exact wps_pure (ent_val rfl)))
      · refine wps_mapR (wps_pure (told_end (fun e => ?_) (e1 R).symm (e1 R').symm ?_))
        · subst e; simp [ha, hb]
        · repeat (first
            | (with_reducible exact ent_drop)
            | (with_reducible refine ent_pick ?_)
            | (refine ent_pickC (by rfl) ?_)
            | (refine ent_pickS (by rfl) ?_)
            | (refine ent_pickM (by rfl) ?_)
            | (refine ent_prx ?_ ?_; rotate_left)
            | (refine ent_prq ?_))
    · refine wps_ite (fun h1 => ?_) (fun h1 => ?_)
      · have hw : c.what = 1 := by simpa using h1
        have e1 : ∀ R, cstep R c = R.write c.disk c.n c.data := fun R => by simp [cstep, hw]
        refine wps_ld c.ds (by rfl) ?_
        refine wps_bind1 (ref00_CopyBytes_spec (b := c.data) (Ent.trans (ent_pick1 (A := callP c)) (callP_data c)) (by omega)) fun z => ?_
        refine wps_swap (A := own 1 z (bv c.data)) (B := byt z c.data) (own_rsl _ _ _) ?_
        refine wps_region (pc x5 c.cells) ent_pick1 ?_
        refine wps_ldI c.disk (by rfl) ?_
        refine wps_ldI c.n (by rfl) ?_
        refine wps_ldI c.disk (by rfl) ?_
        refine wps_ldI c.n (by rfl) ?_
        refine wps_ldI c.ds (by rfl) ?_
        refine wps_stepC2 (fun _ => device_Rack_Write_spec (H := byt z c.data) rb R ds ps c.disk c.n z c.data (Ent.refl _) (by omega)) fun a => ?_
        simp only [← star_assoc]
        refine wps_prP fun ha => ?_
        refine wps_stepC2 (fun _ => ref02_Write_spec (H := callP c) mb R' l1 l2 l3 l4 c.disk c.n c.ds c.data (callP_data c) (by omega)) fun b => ?_
        simp only [← star_assoc]
        refine wps_prP fun hb => ?_
        refine wps_ite (fun he => ?_) (fun he => ?_)
        · refine wps_ldI c.ds (by rfl) ?_
          refine wps_stepV (ref00_SameBytes_val (x := c.data) (y := c.data) (ent_pick1 (A := byt z c.data)) (Ent.trans (ent_pick1 (A := callP c)) (callP_data c)) (by omega)) ?_
          refine wps_mapR (wps_pure (told_end (fun e => by simp) (e1 R).symm (e1 R').symm ?_))
          repeat (first
            | (with_reducible exact ent_drop)
            | (with_reducible refine ent_pick ?_)
            | (refine ent_pickC (by rfl) ?_)
            | (refine ent_pickS (by rfl) ?_)
            | (refine ent_pickM (by rfl) ?_)
            | (refine ent_prx ?_ ?_; rotate_left)
            | (refine ent_prq ?_))
        · refine wps_mapR (wps_pure (told_end (fun e => ?_) (e1 R).symm (e1 R').symm ?_))
          · subst e; rw [ha, hb] at he; simp at he
          · repeat (first
              | (with_reducible exact ent_drop)
              | (with_reducible refine ent_pick ?_)
              | (refine ent_pickC (by rfl) ?_)
              | (refine ent_pickS (by rfl) ?_)
              | (refine ent_pickM (by rfl) ?_)
              | (refine ent_prx ?_ ?_; rotate_left)
              | (refine ent_prq ?_))
      · refine wps_ite (fun h2 => ?_) (fun h2 => ?_)
        · have hw : c.what = 2 := by simpa using h2
          have e1 : ∀ R, cstep R c = R.flush c.disk := fun R => by simp [cstep, hw]
          refine wps_region (pc x5 c.cells) ent_pick1 ?_
          refine wps_ldI c.disk (by rfl) ?_
          refine wps_ldI c.disk (by rfl) ?_
          refine wps_stepC1 (fun _ => device_Rack_Flush_spec rb R ds ps c.disk) fun a => ?_
          simp only [← star_assoc]
          refine wps_prP fun ha => ?_
          refine wps_stepC1 (fun _ => ref02_Flush_spec mb R' l1 l2 l3 l4 c.disk) fun b => ?_
          simp only [← star_assoc]
          refine wps_prP fun hb => ?_
          refine wps_mapR (wps_pure (told_end (fun e => ?_) (e1 R).symm (e1 R').symm ?_))
          · subst e; simp [ha, hb]
          · repeat (first
              | (with_reducible exact ent_drop)
              | (with_reducible refine ent_pick ?_)
              | (refine ent_pickC (by rfl) ?_)
              | (refine ent_pickS (by rfl) ?_)
              | (refine ent_pickM (by rfl) ?_)
              | (refine ent_prx ?_ ?_; rotate_left)
              | (refine ent_prq ?_))
        · refine wps_ite (fun h3 => ?_) (fun h3 => ?_)
          · have hw : c.what = 3 := by simpa using h3
            have e1 : ∀ R, cstep R c = R.arm c.n := fun R => by simp [cstep, hw]
            refine wps_ld c.n (by rfl) ?_
            refine wps_callH (fun _ => device_Rack_Arm_spec rb R ds ps c.n) fun _ => ?_
            refine wps_ld c.n (by rfl) ?_
            refine wps_callH (fun _ => ref02_Arm_spec mb R' l1 l2 l3 l4 c.n hn) fun _ => wps_pure ?_
            rw [e1, e1]
            show Ent _ (_ * _)
            repeat (first
              | (with_reducible exact ent_drop)
              | (with_reducible refine ent_pick ?_)
              | (refine ent_pickC (by rfl) ?_)
              | (refine ent_pickS (by rfl) ?_)
              | (refine ent_pickM (by rfl) ?_)
              | (refine ent_prx ?_ ?_; rotate_left)
              | (refine ent_prq ?_))
          · refine wps_ite (fun h4 => ?_) (fun h4 => ?_)
            · have hw : c.what = 4 := by simpa using h4
              have e1 : ∀ R, cstep R c = R.doom c.disk c.n := fun R => by simp [cstep, hw]
              refine wps_region (pc x5 c.cells) ent_pick1 ?_
              refine wps_ldI c.disk (by rfl) ?_
              refine wps_ldI c.n (by rfl) ?_
              refine wps_ldI c.disk (by rfl) ?_
              refine wps_ldI c.n (by rfl) ?_
              refine wps_stepC1 (fun _ => device_Rack_Doom_spec rb R ds ps c.disk c.n) fun a => ?_
              simp only [← star_assoc]
              refine wps_prP fun ha => ?_
              refine wps_stepC1 (fun _ => ref02_Doom_spec mb R' l1 l2 l3 l4 c.disk c.n hn) fun b => ?_
              simp only [← star_assoc]
              refine wps_prP fun hb => ?_
              refine wps_mapR (wps_pure (told_end (fun e => ?_) (e1 R).symm (e1 R').symm ?_))
              · subst e; simp [ha, hb]
              · repeat (first
                  | (with_reducible exact ent_drop)
                  | (with_reducible refine ent_pick ?_)
                  | (refine ent_pickC (by rfl) ?_)
                  | (refine ent_pickS (by rfl) ?_)
                  | (refine ent_pickM (by rfl) ?_)
                  | (refine ent_prx ?_ ?_; rotate_left)
                  | (refine ent_prq ?_))
            · refine wps_ite (fun h5 => ?_) (fun h5 => ?_)
              · have hw : c.what = 5 := by simpa using h5
                have e1 : ∀ R, cstep R c = R.restore c.keeps := fun R => by simp [cstep, hw]
                refine wps_ld c.ks (by rfl) ?_
                refine wps_bind1 (ref00_CopyInts_spec (b := c.keeps) (Ent.trans (ent_pick1 (A := callP c)) (callP_keeps c)) (by omega)) fun z => ?_
                refine wps_swap (A := own 1 z (zv c.keeps)) (B := intsP z c.keeps) (own_rsl _ _ _) ?_
                refine wps_call2 (fun _ => device_Rack_Restore_spec (H := intsP z c.keeps) hcv rb R ds ps z c.keeps (Ent.refl _)) fun _ => ?_
                simp only [← star_assoc]
                refine wps_ld c.ks (by rfl) ?_
                refine wps_call2 (fun _ => ref02_Restore_spec (H := callP c) mb R' l1 l2 l3 l4 c.ks c.keeps (callP_keeps c)) fun _ => wps_pure ?_
                simp only [← star_assoc]
                rw [e1, e1]
                show Ent _ (_ * _)
                repeat (first
                  | (with_reducible exact ent_drop)
                  | (with_reducible refine ent_pick ?_)
                  | (refine ent_pickC (by rfl) ?_)
                  | (refine ent_pickS (by rfl) ?_)
                  | (refine ent_pickM (by rfl) ?_)
                  | (refine ent_prx ?_ ?_; rotate_left)
                  | (refine ent_prq ?_))
              · refine wps_ite (fun h6 => ?_) (fun h6 => ?_)
                · have hw : c.what = 6 := by simpa using h6
                  have e1 : ∀ R, cstep R c = R.load c.disk c.data := fun R => by simp [cstep, hw]
                  refine wps_ld c.ds (by rfl) ?_
                  refine wps_bind1 (ref00_CopyBytes_spec (b := c.data) (Ent.trans (ent_pick1 (A := callP c)) (callP_data c)) (by omega)) fun z => ?_
                  refine wps_swap (A := own 1 z (bv c.data)) (B := byt z c.data) (own_rsl _ _ _) ?_
                  refine wps_region (pc x5 c.cells) ent_pick1 ?_
                  refine wps_ldI c.disk (by rfl) ?_
                  refine wps_ldI c.disk (by rfl) ?_
                  refine wps_ldI c.ds (by rfl) ?_
                  refine wps_stepC2 (fun _ => device_Rack_Load_spec (H := byt z c.data) rb R ds ps c.disk z c.data (Ent.refl _) (by omega)) fun a => ?_
                  simp only [← star_assoc]
                  refine wps_prP fun ha => ?_
                  refine wps_stepC2 (fun _ => ref02_Load_spec (H := callP c) mb R' l1 l2 l3 l4 c.disk c.ds c.data (callP_data c) (by omega)) fun b => ?_
                  simp only [← star_assoc]
                  refine wps_prP fun hb => ?_
                  refine wps_ite (fun he => ?_) (fun he => ?_)
                  · refine wps_ldI c.ds (by rfl) ?_
                    refine wps_stepV (ref00_SameBytes_val (x := c.data) (y := c.data) (ent_pick1 (A := byt z c.data)) (Ent.trans (ent_pick1 (A := callP c)) (callP_data c)) (by omega)) ?_
                    refine wps_mapR (wps_pure (told_end (fun e => by simp) (e1 R).symm (e1 R').symm ?_))
                    repeat (first
                      | (with_reducible exact ent_drop)
                      | (with_reducible refine ent_pick ?_)
                      | (refine ent_pickC (by rfl) ?_)
                      | (refine ent_pickS (by rfl) ?_)
                      | (refine ent_pickM (by rfl) ?_)
                      | (refine ent_prx ?_ ?_; rotate_left)
                      | (refine ent_prq ?_))
                  · refine wps_mapR (wps_pure (told_end (fun e => ?_) (e1 R).symm (e1 R').symm ?_))
                    · subst e; rw [ha, hb] at he; simp at he
                    · repeat (first
                        | (with_reducible exact ent_drop)
                        | (with_reducible refine ent_pick ?_)
                        | (refine ent_pickC (by rfl) ?_)
                        | (refine ent_pickS (by rfl) ?_)
                        | (refine ent_pickM (by rfl) ?_)
                        | (refine ent_prx ?_ ?_; rotate_left)
                        | (refine ent_prq ?_))
                · have e1 : ∀ R, cstep R c = R := fun R => by
                    have a1 : ¬ c.what = 1 := by simpa using h1
                    have a2 : ¬ c.what = 2 := by simpa using h2
                    have a3 : ¬ c.what = 3 := by simpa using h3
                    have a4 : ¬ c.what = 4 := by simpa using h4
                    have a5 : ¬ c.what = 5 := by simpa using h5
                    have a6 : ¬ c.what = 6 := by simpa using h6
                    simp [cstep, a1, a2, a3, a4, a5, a6]
                  refine wps_ite (fun h7 => ?_) (fun h7 => ?_)
                  · refine wps_ld c.disk (by rfl) ?_
                    refine wps_ld c.n (by rfl) ?_
                    refine wps_callH (fun _ => device_Rack_Lasting_spec rb R ds ps c.disk c.n) fun a => ?_
                    simp only [← star_assoc]
                    refine wps_prP fun ha => ?_
                    refine wps_ld c.disk (by rfl) ?_
                    refine wps_ld c.n (by rfl) ?_
                    refine wps_callH (fun _ => ref02_Lasting_spec mb R' l1 l2 l3 l4 c.disk c.n) fun b => ?_
                    simp only [← star_assoc]
                    refine wps_prP fun hb => ?_
                    have hl1 := hg.lst c.disk c.n
                    refine wps_val (ref00_SameBytes_val (x := R.lst c.disk c.n) (y := R'.lst c.disk c.n) (Ent.trans (ent_pick1 (A := own 1 a.1 (bv (R.lst c.disk c.n)))) (own_rsl _ _ _)) (Ent.trans (ent_pick1 (A := own 1 b.1 (bv (R'.lst c.disk c.n)))) (own_rsl _ _ _)) (by omega)) ?_
                    refine wps_val (v := if decide (R.lst c.disk c.n = R'.lst c.disk c.n) = true then a.2 == b.2 else false) ?_ ?_
                    · repeat (first
                        | (with_reducible refine wps_bindpure ?_)
                        | (with_reducible refine wps_assoc ?_)
                        | (with_reducible refine wps_nil ?_)
                        | (with_reducible refine wps_stepAlloc fun _ => ?_)
                        | (with_reducible refine wps_alloc fun _ => ?_)
                        | (with_reducible refine wps_newO fun _ => ?_)
                        | (refine wps_ld _ (by rfl) ?_)
                        | (refine wps_ldG _ _ _ (by rfl) ?_)
                        | (refine wps_ldA _ (by rfl) ?_)
                        | (refine wps_ldI _ (by rfl) ?_)
                        | (refine wps_ldGI _ _ _ (by rfl) ?_)
                        | (refine wps_ldAI _ (by rfl) ?_)
                        | (refine wps_st (by simp) ?_)
                        | (refine wps_stA (by simp) (by simp [Value.oneCell']) ?_)
                        | ((with_reducible apply wps_val); apply val_ite; rotate_left; refine fun (_ : ¬ _) => ?_; rotate_right; refine fun (_ : _ = true) => ?_)
                        | ((with_reducible apply val_ite); rotate_left; refine fun (_ : ¬ _) => ?_; rotate_right; refine fun (_ : _ = true) => ?_)
                        | (with_reducible refine wps_regionH ?_)
                        | ((with_reducible apply wps_bindV); apply val_iteL; rotate_left; refine fun (_ : ¬ _) => ?_; rotate_right; refine fun (_ : _ = true) => ?_)
                        | ((with_reducible apply val_iteL); rotate_left; refine fun (_ : ¬ _) => ?_; rotate_right; refine fun (_ : _ = true) => ?_)
                        | (with_reducible exact wps_pure (ent_val rfl)))
                    · refine wps_mapR (wps_pure (told_end (fun e => ?_) (e1 R).symm (e1 R').symm ?_))
                      · subst e; simp [ha, hb]
                      · repeat (first
                          | (with_reducible exact ent_drop)
                          | (with_reducible refine ent_pick ?_)
                          | (refine ent_pickC (by rfl) ?_)
                          | (refine ent_pickS (by rfl) ?_)
                          | (refine ent_pickM (by rfl) ?_)
                          | (refine ent_prx ?_ ?_; rotate_left)
                          | (refine ent_prq ?_))
                  · refine wps_pure ?_
                    rw [e1, e1]
                    exact Ent.refl _
  · generalize hRR : cstep R c = R2
    generalize hRR' : cstep R' c = R2'
    have hfin : ∀ b : Bool, (R2 = R2' → b = true) → Ent (callP c * rackP rb R2 ds ps * refQ mb R2' l1 l2 l3 l4 * pc x5 c.cells) (pr (R = R' → b = true) * callP c * rackP rb R2 ds ps * refQ mb R2' l1 l2 l3 l4) := by
      intro b hb
      refine Ent.trans (ent_left _ _) (Ent.trans (ent_pr (p := R = R' → b = true) fun e => hb (by rw [← hRR, ← hRR', e])) (Ent.of_eq ?_))
      simp only [star_assoc]
    refine wps_regionH ?_
    refine wps_nil ?_
    refine wps_ldI R2'.off (by rfl) ?_
    refine wps_stepVH (fun _ => device_Rack_Off_val rb R2 ds ps) ?_
    refine wps_ite (fun he => ?_) (fun he => ?_)
    · refine wps_ldI c.disk (by rfl) ?_
      refine wps_ldI c.disk (by rfl) ?_
      refine wps_stepVH (fun _ => device_Rack_Failed_val rb R2 ds ps c.disk) ?_
      refine wps_stepVH (fun _ => ref02_Failed_val mb R2' l1 l2 l3 l4 c.disk) ?_
      exact wps_pure (hfin _ fun e => by subst e; simp)
    · exact wps_pure (hfin _ fun e => by subst e; simp at he)
end Go.Proofs.Ytldmeimebebllaa
namespace Go.Proofs.Ytldmeimebebllaa
open Go.Mo
set_option linter.unusedVariables false
variable {g : Fr} {cv : CV}
theorem gated_n (R : Rk) (k s z : Int) : (R.gated k s z).n = R.n ∧ (R.gated k s z).ns = R.ns := by
  unfold Rk.gated; split
  · exact ⟨rfl, rfl⟩
  · exact ticked_n R
theorem write_n (R : Rk) (k s : Int) (b : List Int) : (R.write k s b).n = R.n ∧ (R.write k s b).ns = R.ns := by
  unfold Rk.write; split
  · exact gated_n R k s b.length
  · exact gated_n R k s b.length
theorem doom_n (R : Rk) (k c : Int) : (R.doom k c).n = R.n ∧ (R.doom k c).ns = R.ns := by
  unfold Rk.doom; split <;> exact ⟨rfl, rfl⟩
theorem load_n (R : Rk) (k : Int) (im : List Int) : (R.load k im).n = R.n ∧ (R.load k im).ns = R.ns := by
  unfold Rk.load; split <;> exact ⟨rfl, rfl⟩
theorem cstep_n (R : Rk) (c : CallA) : (cstep R c).n = R.n ∧ (cstep R c).ns = R.ns := by
  unfold cstep
  split
  · exact write_n _ _ _ _
  split
  · exact flush_n _
  split
  · exact ⟨rfl, rfl⟩
  split
  · exact doom_n _ _ _
  split
  · exact ⟨rfl, rfl⟩
  split
  · exact load_n _ _ _
  · exact ⟨rfl, rfl⟩
theorem law02_DeviceCalls_spec (hcv : KeysOk cv) (d s : Int) (x : Slc) (l : List CallA) : wps g (callsP x l) (law02_DeviceCalls cv d s x) (fun b => pr (b = true)) := by
  unfold law02_DeviceCalls
  refine wps_callE (fun _ => law02_alive_spec hcv) fun a => ?_
  refine wps_prP fun ha => ?_
  subst ha
  refine wps_ite (fun h => absurd h (by decide)) (fun _ => ?_)
  refine wps_fact (callsP_len x l) fun hl => ?_
  refine wps_bind (law02_great_spec d s x l) fun gr => ?_
  refine wps_pr fun hgr => ?_
  refine wps_ite (fun _ => wps_pure (ent_prq rfl)) (fun hgr2 => ?_)
  obtain ⟨hfit, hd20, hs100⟩ := hgr (by simpa using hgr2)
  refine wps_callE (fun _ => device_New_spec d s) fun y => ?_
  refine wps_callE (fun _ => ref02_New_spec d s) fun z => ?_
  repeat (first
    | (with_reducible refine wps_bindpure ?_)
    | (with_reducible refine wps_assoc ?_)
    | (with_reducible refine wps_nil ?_)
    | (with_reducible refine wps_stepAlloc fun _ => ?_)
    | (with_reducible refine wps_alloc fun _ => ?_)
    | (with_reducible refine wps_newO fun _ => ?_)
    | (refine wps_ld _ (by rfl) ?_)
    | (refine wps_ldG _ _ _ (by rfl) ?_)
    | (refine wps_ldA _ (by rfl) ?_)
    | (refine wps_ldI _ (by rfl) ?_)
    | (refine wps_ldGI _ _ _ (by rfl) ?_)
    | (refine wps_ldAI _ (by rfl) ?_)
    | (refine wps_st (by simp) ?_)
    | (refine wps_stA (by simp) (by simp [Value.oneCell']) ?_)
    | (with_reducible refine wps_regionH ?_)
    | (with_reducible exact wps_pure (ent_val rfl)))
  rename_i c9
  by_cases hb : d < 1 ∨ d > 17 ∨ s < 1 ∨ s > 4096
  · simp only [if_pos hb]
    refine wps_prP fun hz => wps_prP fun hy => ?_
    subst hy
    rw [hz]
    refine wps_val (v := false) (wps_ite (fun h => absurd h (by decide)) (fun _ => wps_pure (ent_val (by simp)))) ?_
    refine wps_ite (fun h => absurd h (by decide)) (fun _ => ?_)
    refine wps_val (v := true) (wps_ite (fun _ => wps_pure (ent_val rfl)) (fun h => absurd rfl h)) ?_
    exact wps_ite (fun _ => wps_pure (ent_prq rfl)) (fun h => absurd rfl h)
  · simp only [if_neg hb]
    refine wps_exP fun rb => ?_
    simp only [← star_assoc]
    refine wps_prP fun hy => wps_prP fun hz => ?_
    subst hy
    rw [hz]
    refine wps_val (v := false) (wps_ite (fun h => absurd h (by simp)) (fun _ => wps_pure (ent_val (by simp)))) ?_
    refine wps_ite (fun h => absurd h (by decide)) (fun _ => ?_)
    refine wps_val (v := false) (wps_ite (fun h => absurd h (by simp)) (fun _ => wps_pure (ent_val (by simp)))) ?_
    refine wps_ite (fun h => absurd h (by decide)) (fun _ => ?_)
    obtain ⟨N, rfl⟩ : ∃ N : Nat, d = (N : Int) := ⟨d.toNat, by omega⟩
    obtain ⟨S, rfl⟩ : ∃ S : Nat, s = (S : Int) := ⟨s.toNat, by omega⟩
    simp only [Int.toNat_natCast]
    unfold rack
    refine wps_exP fun ds => wps_exP fun ps => ?_
    generalize hv : z.1 = v
    refine wps_pre (H' := callsP x l * rackP rb (Rk.new N S) ds ps * refQ c9 (Rk.new N S) v.2.2.1 v.2.2.2.1 v.2.2.2.2.1 v.2.2.2.2.2.1) ?_ ?_
    · refine Ent.trans (B := callsP x l * refV v (Rk.new N S) * rackP rb (Rk.new N S) ds ps * pc c9 (refC v)) ?_ ?_
      · refine ent_pickC (by rfl) ?_
        repeat (first
          | (with_reducible exact ent_drop)
          | (with_reducible refine ent_pick ?_)
          | (refine ent_pickC (by rfl) ?_)
          | (refine ent_pickS (by rfl) ?_)
          | (refine ent_pickM (by rfl) ?_)
          | (refine ent_prx ?_ ?_; rotate_left)
          | (refine ent_prq ?_))
      · refine ent_join (A := refV v (Rk.new N S)) (B := pc c9 (refC v)) refQ_new ?_
        repeat (first
          | (with_reducible exact ent_drop)
          | (with_reducible refine ent_pick ?_)
          | (refine ent_pickC (by rfl) ?_)
          | (refine ent_pickS (by rfl) ?_)
          | (refine ent_pickM (by rfl) ?_)
          | (refine ent_prx ?_ ?_; rotate_left)
          | (refine ent_prq ?_))
    generalize v.2.2.1 = l1
    generalize v.2.2.2.1 = l2
    generalize v.2.2.2.2.1 = l3
    generalize v.2.2.2.2.2.1 = l4
    refine wps_loop (fun st => ex fun i : Nat => ex fun R : Rk => pr (st = (i : Int) ∧ i ≤ l.length ∧ R.n = N ∧ R.ns = S) * callsP x l * rackP rb R ds ps * refQ c9 R l1 l2 l3 l4) (fun st => (l.length - st).toNat) ?_ fun st => ?_
    · refine ent_ex 0 (ent_ex (Rk.new N S) ?_)
      repeat (first
        | (with_reducible exact ent_drop)
        | (with_reducible refine ent_pick ?_)
        | (refine ent_pickC (by rfl) ?_)
        | (refine ent_pickS (by rfl) ?_)
        | (refine ent_pickM (by rfl) ?_)
        | (refine ent_prx ?_ ?_; rotate_left)
        | (refine ent_prq ?_))
      all_goals first | exact ⟨rfl, by omega, rfl, rfl⟩ | trivial
    · refine wps_ex fun i => wps_ex fun R => wps_prP fun ⟨hi, hn, hRn, hRs⟩ => ?_
      refine wps_ite (fun hc => ?_) (fun hc => ?_)
      · have hlt : i < l.length := by simp only [decide_eq_true_eq] at hc; omega
        have hget : l[i]? = some l[i] := List.getElem?_eq_getElem hlt
        refine wps_fact (Ent.trans (ent_pick1 (A := callsP x l)) (Ent.trans (callsP_get hget) (callP_ok _))) fun hok => ?_
        have hmem : l[i] ∈ l := List.getElem_mem hlt
        have h200 := hfit.len
        have hcn := cstep_n R l[i]
        refine wps_region (callsP x l) ent_pick1 ?_
        refine wps_rdAI i l[i].t (callsP_rsl x l) (ent_pick1 (A := callsP x l)) hi (by simp) (fun j v hj => ?_) ?_
        · have h5 : j < 5 := by have := (List.getElem?_eq_some_iff.1 hj).1; simpa using this
          rw [flat_get cells_len hget h5]; exact hj
        refine wps_bind (R := fun b => pr (b = true) * callsP x l * rackP rb (cstep R l[i]) ds ps * refQ c9 (cstep R l[i]) l1 l2 l3 l4) (wps_stepI ?_ fun b => ?_) fun b => ?_
        · refine wps_tail (F := callsP x l) (fun _ => law02_told_spec hcv rb R ds ps c9 R l1 l2 l3 l4 l[i] (hfit.data _ hmem) (hfit.keeps _ hmem) hok.n) ?_ fun b => ?_
          · refine Ent.trans (B := callsP x l * (rackP rb R ds ps * refQ c9 R l1 l2 l3 l4)) ?_ ?_
            · simp only [← star_assoc]
              repeat (first
                | (with_reducible exact ent_drop)
                | (with_reducible refine ent_pick ?_)
                | (refine ent_pickC (by rfl) ?_)
                | (refine ent_pickS (by rfl) ?_)
                | (refine ent_pickM (by rfl) ?_)
                | (refine ent_prx ?_ ?_; rotate_left)
                | (refine ent_prq ?_))
            · refine Ent.trans (Ent.starl (ent_and (B := callsP x l) (C := callP l[i]) (Ent.refl _) (callsP_get hget))) (Ent.of_eq ?_)
              simp only [star_assoc]
          · simp only [← star_assoc]
            refine ent_prP (p := True → b = true) fun h => ?_
            repeat (first
              | (with_reducible exact ent_drop)
              | (with_reducible refine ent_pick ?_)
              | (refine ent_pickC (by rfl) ?_)
              | (refine ent_pickS (by rfl) ?_)
              | (refine ent_pickM (by rfl) ?_)
              | (refine ent_prx ?_ ?_; rotate_left)
              | (refine ent_prq ?_))
            all_goals first | exact h trivial | trivial
        · exact ent_pick1 (A := callsP x l)
        · refine wps_prP fun hb => ?_
          subst hb
          refine wps_againH ?_
          refine wps_ite (fun h => absurd h (by decide)) (fun _ => ?_)
          generalize cstep R l[i] = R2 at *
          refine wps_ldI R2.off (by rfl) ?_
          refine wps_stepVH (fun _ => device_Rack_Off_val rb R2 ds ps) ?_
          refine wps_ite (fun h => absurd h (by simp)) (fun _ => wps_pure ?_)
          refine ent_prr (by rw [range_add1 hi (by omega)]; omega) (ent_ex (i + 1) (ent_ex R2 ?_))
          repeat (first
            | (with_reducible exact ent_drop)
            | (with_reducible refine ent_pick ?_)
            | (refine ent_pickC (by rfl) ?_)
            | (refine ent_pickS (by rfl) ?_)
            | (refine ent_pickM (by rfl) ?_)
            | (refine ent_prx ?_ ?_; rotate_left)
            | (refine ent_prq ?_))
          all_goals first | exact ⟨range_add1 hi (by omega), by omega, by rw [hcn.1]; exact hRn, by rw [hcn.2]; exact hRs⟩ | trivial
      · refine wps_mapR ?_
        refine wps_fact (Ent.trans (ent_pick1 (A := rackP rb R ds ps)) rackP_good) fun hg => ?_
        refine wps_valH (fun _ => device_Rack_Size_val rb R ds ps) ?_
        rw [hRn, hRs]
        refine wps_loop (fun st => ex fun i : Nat => pr (st = (i : Int) ∧ i ≤ N) * rackP rb R ds ps * refQ c9 R l1 l2 l3 l4) (fun st => (N - st).toNat) ?_ fun st => ?_
        · refine ent_ex 0 ?_
          repeat (first
            | (with_reducible exact ent_drop)
            | (with_reducible refine ent_pick ?_)
            | (refine ent_pickC (by rfl) ?_)
            | (refine ent_pickS (by rfl) ?_)
            | (refine ent_pickM (by rfl) ?_)
            | (refine ent_prx ?_ ?_; rotate_left)
            | (refine ent_prq ?_))
          all_goals first | exact ⟨rfl, by omega⟩ | trivial
        · refine wps_ex fun i => wps_prP fun ⟨hi, hn⟩ => ?_
          refine wps_ite (fun hc2 => ?_) (fun hc2 => ?_)
          · have hlt : i < N := by simp only [decide_eq_true_eq] at hc2; omega
            refine wps_valH (fun _ => device_Rack_Failed_val rb R ds ps st) ?_
            refine wps_valH (fun _ => ref02_Failed_val c9 R l1 l2 l3 l4 st) ?_
            refine wps_ite (fun h => absurd h (by simp)) (fun _ => ?_)
            subst hi
            refine wps_loop (fun st => ex fun k : Nat => pr (st = (k : Int) ∧ k ≤ S) * rackP rb R ds ps * refQ c9 R l1 l2 l3 l4) (fun st => (S - st).toNat) ?_ fun st => ?_
            · refine ent_ex 0 ?_
              repeat (first
                | (with_reducible exact ent_drop)
                | (with_reducible refine ent_pick ?_)
                | (refine ent_pickC (by rfl) ?_)
                | (refine ent_pickS (by rfl) ?_)
                | (refine ent_pickM (by rfl) ?_)
                | (refine ent_prx ?_ ?_; rotate_left)
                | (refine ent_prq ?_))
              all_goals first | exact ⟨rfl, by omega⟩ | trivial
            · refine wps_ex fun k => wps_prP fun ⟨hk, hkn⟩ => ?_
              refine wps_ite (fun hc3 => ?_) (fun hc3 => ?_)
              · have hlt3 : k < S := by simp only [decide_eq_true_eq] at hc3; omega
                refine wps_callH (fun _ => device_Rack_Lasting_spec rb R ds ps i st) fun a => ?_
                simp only [← star_assoc]
                refine wps_prP fun ha => ?_
                refine wps_callH (fun _ => ref02_Lasting_spec c9 R l1 l2 l3 l4 i st) fun b => ?_
                simp only [← star_assoc]
                refine wps_prP fun hb => ?_
                have hl1 := hg.lst i st
                refine wps_val (ref00_SameBytes_val (x := R.lst i st) (y := R.lst i st) (Ent.trans (ent_pick1 (A := own 1 a.1 (bv (R.lst i st)))) (own_rsl _ _ _)) (Ent.trans (ent_pick1 (A := own 1 b.1 (bv (R.lst i st)))) (own_rsl _ _ _)) (by omega)) ?_
                refine wps_ite (fun h => absurd h (by simp)) (fun _ => wps_pure ?_)
                refine ent_prr (by rw [range_add1 hk (by omega)]; omega) (ent_ex (k + 1) ?_)
                repeat (first
                  | (with_reducible exact ent_drop)
                  | (with_reducible refine ent_pick ?_)
                  | (refine ent_pickC (by rfl) ?_)
                  | (refine ent_pickS (by rfl) ?_)
                  | (refine ent_pickM (by rfl) ?_)
                  | (refine ent_prx ?_ ?_; rotate_left)
                  | (refine ent_prq ?_))
                all_goals first | exact ⟨range_add1 hk (by omega), by omega⟩ | trivial
              · refine wps_mapR (wps_pure ?_)
                refine ent_prr (by (try dsimp only); rw [range_add1 rfl (by omega)]; omega) (ent_ex (i + 1) ?_)
                repeat (first
                  | (with_reducible exact ent_drop)
                  | (with_reducible refine ent_pick ?_)
                  | (refine ent_pickC (by rfl) ?_)
                  | (refine ent_pickS (by rfl) ?_)
                  | (refine ent_pickM (by rfl) ?_)
                  | (refine ent_prx ?_ ?_; rotate_left)
                  | (refine ent_prq ?_))
                all_goals first | exact ⟨range_add1 rfl (by omega), by omega⟩ | trivial
          · refine wps_mapR ?_
            refine wps_val (v := true) (wps_ite (fun _ => wps_pure (ent_val (by simp))) (fun h => absurd (by simp) h)) ?_
            exact wps_pure (ent_prq rfl)
end Go.Proofs.Ytldmeimebebllaa
namespace Go.Proofs.Ytldmeimebebllaa
open Go.Mo
set_option linter.unusedVariables false
variable {g : Fr} {cv : CV}
/-- a rack whose disk 1 has failed, without an armed power -/
structure Fl (R : Rk) : Prop where
  n : R.n = 3
  ns : R.ns = 4
  off : R.off = false
  count : R.count = -1
  failed : (R.dk 1).failed = true
theorem Fl.ticked {R : Rk} (h : Fl R) : Fl R.ticked := by
  have hc : ¬ R.count = 0 := by rw [h.count]; omega
  rw [Rk.ticked, if_neg hc]
  refine ⟨h.n, h.ns, h.off, ?_, ?_⟩
  · show maxI (w64 (R.count - 1)) (-1) = -1
    rw [h.count, w64m2]; rfl
  · show ((R.dk 1).tick).failed = true
    simp [h.failed]
theorem Fl.gated {R : Rk} (h : Fl R) (k s z : Int) : Fl (R.gated k s z) := by
  unfold Rk.gated; split
  · exact h
  · exact h.ticked
theorem Fl.setD {R : Rk} (h : Fl R) {k : Nat} {D : Dk} (hD : k = 1 → D.failed = true) : Fl (R.setD k D) := ⟨h.n, h.ns, h.off, h.count, by
  simp only [Rk.setD]; split
  · rename_i e; exact hD e.symm
  · exact h.failed⟩
theorem Fl.write {R : Rk} (h : Fl R) (k s : Int) (b : List Int) : Fl (R.write k s b) := by
  unfold Rk.write; split
  · have := h.gated k s b.length
    refine ⟨this.n, this.ns, this.off, this.count, ?_⟩
    simp only [Rk.put]; split <;> exact this.failed
  · exact h.gated _ _ _
theorem Fl.flush {R : Rk} (h : Fl R) (k : Int) : Fl (R.flush k) := by
  unfold Rk.flush; split
  · refine (h.gated _ _ _).setD fun e => ?_
    rw [e]; exact (h.gated _ _ _).failed
  · exact h.gated _ _ _
theorem Fl.cstep {R : Rk} (h : Fl R) {c : CallA} (h3 : c.what ≠ 3) (h4 : c.what ≠ 4) : Fl (cstep R c) := by
  unfold Proofs.Ytldmeimebebllaa.cstep
  simp only [if_neg h3, if_neg h4]
  split
  · exact h.write _ _ _
  split
  · exact h.flush _
  split
  · exact ⟨h.n, h.ns, rfl, rfl, h.failed⟩
  split
  · unfold Rk.load; split
    · exact h
    · exact h.setD fun e => by rw [e]; exact h.failed
  · exact h
theorem Fl.gate {R : Rk} (h : Fl R) {s : Int} (hs : 0 ≤ s ∧ s < 4) : R.gate 1 s 64 = 13 := by
  have hr : ¬ ((1 : Int) < 0 ∨ (1 : Int) ≥ R.n ∨ s < 0 ∨ s ≥ R.ns) := by rw [h.n, h.ns]; omega
  rw [Rk.gate, if_neg (by simp [h.off]), if_neg hr, if_neg (by omega), if_neg (by rw [h.count]; omega), show Int.toNat 1 = 1 from rfl, if_pos h.ticked.failed]
theorem Fl.rdErr {R : Rk} (h : Fl R) {s : Int} (hs : 0 ≤ s ∧ s < 4) : R.rdErr 1 s = 13 := by
  have hr : ¬ ((1 : Int) < 0 ∨ (1 : Int) ≥ R.n ∨ s < 0 ∨ s ≥ R.ns) := by rw [h.n, h.ns]; omega
  rw [Rk.rdErr, if_neg (by simp [h.off]), if_neg hr, show Int.toNat 1 = 1 from rfl, if_pos h.failed]
theorem Fl.failedB {R : Rk} (h : Fl R) : R.failedB 1 = true := by
  rw [Rk.failedB, if_pos (by rw [h.n]; decide)]; exact h.failed
theorem law02_DeviceFails_spec (hcv : KeysOk cv) (x : Slc) (l : List CallA) (at_ : Int) : wps g (callsP x l) (law02_DeviceFails cv x at_) (fun b => pr (b = true)) := by
  unfold law02_DeviceFails
  refine wps_callE (fun _ => law02_alive_spec hcv) fun a => ?_
  refine wps_prP fun ha => ?_
  subst ha
  refine wps_ite (fun h => absurd h (by decide)) (fun _ => ?_)
  refine wps_fact (callsP_len x l) fun hl => ?_
  refine wps_bind (law02_great_spec 3 4 x l) fun gr => ?_
  refine wps_pr fun hgr => ?_
  refine wps_ite (fun _ => wps_pure (ent_prq rfl)) (fun hgr2 => ?_)
  obtain ⟨hfit, _, _⟩ := hgr (by simpa using hgr2)
  have h200 := hfit.len
  refine wps_callE (fun _ => device_New_spec 3 4) fun y => ?_
  rw [if_neg (by decide), show Rk.new (Int.toNat 3) (Int.toNat 4) = Rk.new 3 4 from rfl]
  refine wps_exP fun rb => ?_
  simp only [← star_assoc]
  refine wps_prP fun hy => ?_
  subst hy
  unfold rack
  refine wps_exP fun ds => wps_exP fun ps => ?_
  refine wps_val (v := false) (wps_ite (fun h => absurd h (by simp)) (fun _ => wps_pure (ent_val rfl))) ?_
  refine wps_bite (fun h => absurd h (by decide)) (fun _ => ?_)
  refine wps_assoc ?_
  refine wps_callH (fun _ => device_Rack_Doom_spec rb (Rk.new 3 4) ds ps 1 0) fun e => ?_
  simp only [← star_assoc]
  refine wps_prP fun he => ?_
  rw [if_neg (by decide)] at he
  subst he
  refine wps_bindpure ?_
  refine wps_ite (fun h => absurd h (by decide)) (fun _ => ?_)
  refine wps_alloc fun c => ?_
  refine wps_swap (A := pc c (List.replicate 64 (Value.int .u8 0))) (B := byt ⟨some ⟨c, 0, none⟩, 64, 64⟩ noughts) (Ent.trans (Ent.trans (pc_own (n := 64) (z := 1) (by simp)) (own_rsl _ _ _)) (Ent.of_eq (by rw [byt, bv_noughts]))) ?_
  refine wps_call2 (fun _ => device_Rack_Write_spec (H := byt ⟨some ⟨c, 0, none⟩, 64, 64⟩ noughts) rb ((Rk.new 3 4).doom 1 0) ds ps 0 0 _ noughts (Ent.refl _) (by decide)) fun e => ?_
  simp only [← star_assoc]
  refine wps_prP fun he => ?_
  have he0 : ((Rk.new 3 4).doom 1 0).gate 0 0 noughts.length = 0 := by decide
  rw [he0] at he
  subst he
  have hF : Fl (((Rk.new 3 4).doom 1 0).write 0 0 noughts) := ⟨by decide, by decide, by decide, by decide, by decide⟩
  have hf0 : (((Rk.new 3 4).doom 1 0).write 0 0 noughts).failedB 0 = false := by decide
  generalize ((Rk.new 3 4).doom 1 0).write 0 0 noughts = R0 at *
  refine wps_val (v := false) ?_ ?_
  · refine wps_ite (fun h => absurd h (by decide)) (fun _ => ?_)
    refine wps_valH (fun _ => device_Rack_Failed_val rb R0 ds ps 1) ?_
    exact wps_pure (ent_val (by rw [hF.failedB]; rfl))
  refine wps_val (v := false) ?_ ?_
  · refine wps_ite (fun h => absurd h (by decide)) (fun _ => ?_)
    refine wps_valH (fun _ => device_Rack_Failed_val rb R0 ds ps 0) ?_
    exact wps_pure (ent_val (by rw [hf0]))
  refine wps_ite (fun h => absurd h (by decide)) (fun _ => ?_)
  have h3 := bAnd_le at_ 3 (by omega)
  have h3' : ((3 : Nat) : Int) = 3 := rfl
  rw [h3'] at h3
  generalize bAnd .i64 at_ 3 = q at *
  have hq : 0 ≤ q ∧ q < 4 := by omega
  refine wps_loop (fun st => ex fun i : Nat => ex fun R : Rk => pr (st = (i : Int) ∧ i ≤ l.length ∧ Fl R) * callsP x l * byt ⟨some ⟨c, 0, none⟩, 64, 64⟩ noughts * rackP rb R ds ps) (fun st => (l.length - st).toNat) ?_ fun st => ?_
  · refine ent_ex 0 (ent_ex R0 ?_)
    repeat (first
      | (with_reducible exact ent_drop)
      | (with_reducible refine ent_pick ?_)
      | (refine ent_pickC (by rfl) ?_)
      | (refine ent_pickS (by rfl) ?_)
      | (refine ent_pickM (by rfl) ?_)
      | (refine ent_prx ?_ ?_; rotate_left)
      | (refine ent_prq ?_))
    all_goals first | exact ⟨rfl, by omega, hF⟩ | trivial
  · refine wps_ex fun i => wps_ex fun R => wps_prP fun ⟨hi, hn, hR⟩ => ?_
    refine wps_ite (fun hc => ?_) (fun hc => wps_mapR (wps_pure (ent_prq rfl)))
    have hlt : i < l.length := by simp only [decide_eq_true_eq] at hc; omega
    have hget : l[i]? = some l[i] := List.getElem?_eq_getElem hlt
    refine wps_fact (Ent.trans (ent_pick1 (A := callsP x l)) (Ent.trans (callsP_get hget) (callP_ok _))) fun hok => ?_
    have hmem : l[i] ∈ l := List.getElem_mem hlt
    refine wps_rdA i l[i].t (Ent.trans (ent_pick1 (A := callsP x l)) (callsP_rsl x l)) hi (by simp) (fun j v hj => ?_) ?_
    · have h5 : j < 5 := by have := (List.getElem?_eq_some_iff.1 hj).1; simpa using this
      rw [flat_get cells_len hget h5]; exact hj
    refine wps_alloc fun c9 => ?_
    refine wps_stA (by simp) (by simp [Value.oneCell']) ?_
    refine wps_eq (H' := emp * callsP x l * byt ⟨some ⟨c, 0, none⟩, 64, 64⟩ noughts * rackP rb R ds ps * pc c9 l[i].cells) rfl ?_
    refine wps_ld l[i].what (by rfl) ?_
    refine wps_val (v := decide (l[i].what = 3 ∨ l[i].what = 4)) ?_ ?_
    · refine wps_ite (fun h => wps_pure (ent_val ?_)) (fun h => ?_)
      · have : l[i].what = 3 := by simpa using h
        simp [this]
      · have h' : ¬ l[i].what = 3 := by simpa using h
        refine wps_ld l[i].what (by rfl) ?_
        refine wps_pure (ent_val ?_)
        rw [Bool.eq_iff_iff]; simp [h']
    refine wps_ite (fun h => ?_) (fun h => ?_)
    · refine wps_pure ?_
      refine ent_prr (by rw [range_add1 hi (by omega)]; omega) (ent_ex (i + 1) (ent_ex R ?_))
      repeat (first
        | (with_reducible exact ent_drop)
        | (with_reducible refine ent_pick ?_)
        | (refine ent_pickC (by rfl) ?_)
        | (refine ent_pickS (by rfl) ?_)
        | (refine ent_pickM (by rfl) ?_)
        | (refine ent_prx ?_ ?_; rotate_left)
        | (refine ent_prq ?_))
      all_goals first | exact ⟨range_add1 hi (by omega), by omega, hR⟩ | trivial
    have hw34 : ¬ (l[i].what = 3 ∨ l[i].what = 4) := by simpa using h
    refine wps_alloc fun c10 => ?_
    refine wps_stA (by simp) (by simp [Value.oneCell']) ?_
    refine wps_callE (fun _ => ref02_New_spec 3 4) fun z => ?_
    rw [if_neg (by decide), show Rk.new (Int.toNat 3) (Int.toNat 4) = Rk.new 3 4 from rfl]
    refine wps_stA (by simp [ovw]) (by simp [Value.oneCell']) ?_
    simp only [← star_assoc]
    refine wps_prP fun hz => ?_
    generalize hv : z.1 = v
    refine wps_pre (H' := callsP x l * byt ⟨some ⟨c, 0, none⟩, 64, 64⟩ noughts * rackP rb R ds ps * pc c9 l[i].cells * refQ c10 (Rk.new 3 4) v.2.2.1 v.2.2.2.1 v.2.2.2.2.1 v.2.2.2.2.2.1) ?_ ?_
    · refine Ent.trans (B := callsP x l * byt ⟨some ⟨c, 0, none⟩, 64, 64⟩ noughts * rackP rb R ds ps * pc c9 l[i].cells * refV v (Rk.new 3 4) * pc c10 (refC v)) ?_ ?_
      · refine ent_pickC (by rfl) ?_
        repeat (first
          | (with_reducible exact ent_drop)
          | (with_reducible refine ent_pick ?_)
          | (refine ent_pickC (by rfl) ?_)
          | (refine ent_pickS (by rfl) ?_)
          | (refine ent_pickM (by rfl) ?_)
          | (refine ent_prx ?_ ?_; rotate_left)
          | (refine ent_prq ?_))
      · refine ent_join (A := refV v (Rk.new 3 4)) (B := pc c10 (refC v)) refQ_new ?_
        repeat (first
          | (with_reducible exact ent_drop)
          | (with_reducible refine ent_pick ?_)
          | (refine ent_pickC (by rfl) ?_)
          | (refine ent_pickS (by rfl) ?_)
          | (refine ent_pickM (by rfl) ?_)
          | (refine ent_prx ?_ ?_; rotate_left)
          | (refine ent_prq ?_))
    generalize v.2.2.1 = l1
    generalize v.2.2.2.1 = l2
    generalize v.2.2.2.2.1 = l3
    generalize v.2.2.2.2.2.1 = l4
    refine wps_ldA l[i].t (by rfl) ?_
    refine wps_call (F := callsP x l * byt ⟨some ⟨c, 0, none⟩, 64, 64⟩ noughts) (fun _ => law02_told_spec hcv rb R ds ps c10 (Rk.new 3 4) l1 l2 l3 l4 l[i] (hfit.data _ hmem) (hfit.keeps _ hmem) hok.n) ?_ fun b => ?_
    · refine Ent.trans (B := byt ⟨some ⟨c, 0, none⟩, 64, 64⟩ noughts * rackP rb R ds ps * refQ c10 (Rk.new 3 4) l1 l2 l3 l4 * callsP x l) ?_ ?_
      · repeat (first
          | (with_reducible exact ent_drop)
          | (with_reducible refine ent_pick ?_)
          | (refine ent_pickC (by rfl) ?_)
          | (refine ent_pickS (by rfl) ?_)
          | (refine ent_pickM (by rfl) ?_)
          | (refine ent_prx ?_ ?_; rotate_left)
          | (refine ent_prq ?_))
      · refine Ent.trans (Ent.starr (ent_and (B := callsP x l) (C := callP l[i]) (Ent.refl _) (callsP_get hget))) (Ent.of_eq ?_)
        simp only [star_assoc]
        ac_rfl
    have hR2 : Fl (cstep R l[i]) := hR.cstep (fun e => hw34 (.inl e)) (fun e => hw34 (.inr e))
    generalize cstep R l[i] = R2 at *
    refine wps_pre (H' := callsP x l * byt ⟨some ⟨c, 0, none⟩, 64, 64⟩ noughts * rackP rb R2 ds ps) ?_ ?_
    · simp only [← star_assoc]
      repeat (first
        | (with_reducible exact ent_drop)
        | (with_reducible refine ent_pick ?_)
        | (refine ent_pickC (by rfl) ?_)
        | (refine ent_pickS (by rfl) ?_)
        | (refine ent_pickM (by rfl) ?_)
        | (refine ent_prx ?_ ?_; rotate_left)
        | (refine ent_prq ?_))
    refine wps_callH (fun _ => device_Rack_Read_spec rb R2 ds ps 1 q) fun z => ?_
    simp only [← star_assoc]
    refine wps_prP fun hz => ?_
    rw [hR2.rdErr hq] at hz
    refine wps_valH (fun _ => device_Rack_Off_val rb R2 ds ps) ?_
    refine wps_val (v := false) (wps_ite (fun h => absurd h (by simp [hR2.off])) (fun _ => wps_pure (ent_val (by rw [hz]; rfl)))) ?_
    refine wps_bite (fun h => absurd h (by decide)) (fun _ => ?_)
    refine wps_assoc ?_
    refine wps_call2 (fun _ => device_Rack_Write_spec (H := byt ⟨some ⟨c, 0, none⟩, 64, 64⟩ noughts) rb R2 ds ps 1 q _ noughts (Ent.refl _) (by decide)) fun e => ?_
    simp only [← star_assoc]
    refine wps_prP fun he => ?_
    have hR3 := hR2.write 1 q noughts
    rw [show ((noughts.length : Nat) : Int) = 64 by decide, hR2.gate hq] at he
    subst he
    generalize R2.write 1 q noughts = R3 at *
    refine wps_bindpure ?_
    refine wps_bite (fun h => absurd h (by decide)) (fun _ => ?_)
    refine wps_assoc ?_
    refine wps_callH (fun _ => device_Rack_Flush_spec rb R3 ds ps 1) fun e => ?_
    simp only [← star_assoc]
    refine wps_prP fun he => ?_
    have hR4 := hR3.flush 1
    rw [hR3.gate (by omega)] at he
    subst he
    generalize R3.flush 1 = R4 at *
    refine wps_bindpure ?_
    refine wps_val (v := false) ?_ ?_
    · refine wps_ite (fun h => absurd h (by decide)) (fun _ => ?_)
      refine wps_valH (fun _ => device_Rack_Failed_val rb R4 ds ps 1) ?_
      exact wps_pure (ent_val (by rw [hR4.failedB]; rfl))
    refine wps_ite (fun h => absurd h (by decide)) (fun _ => wps_pure ?_)
    refine ent_prr (by rw [range_add1 hi (by omega)]; omega) (ent_ex (i + 1) (ent_ex R4 ?_))
    repeat (first
      | (with_reducible exact ent_drop)
      | (with_reducible refine ent_pick ?_)
      | (refine ent_pickC (by rfl) ?_)
      | (refine ent_pickS (by rfl) ?_)
      | (refine ent_pickM (by rfl) ?_)
      | (refine ent_prx ?_ ?_; rotate_left)
      | (refine ent_prq ?_))
    all_goals first | exact ⟨range_add1 hi (by omega), by omega, hR4⟩ | trivial
end Go.Proofs.Ytldmeimebebllaa
