/- RenderTells: the plain law. -/
import Derived.Test.YtacccimihgailaaPmath
import Derived.Test.YtacccimihgailaaL3
set_option linter.unusedVariables false
set_option linter.unusedSimpArgs false
set_option maxRecDepth 100000
namespace Go.Proofs.Ytacccimihgailaa
namespace Pm
namespace Tp

def idOk (n : Int) : Bool := decide (1 ≤ n ∧ n ≤ 1048575)
theorem pack_id_eq (n : Int) : pack_id n = some (idOk n) := by
  unfold pack_id idOk
  rw [bif_dec]
  split <;> simp <;> omega
theorem ref_Id_eq (n : Int) : tenterref02_Id n = some (idOk n) := by
  unfold tenterref02_Id idOk
  rw [bif_dec]
  split <;> simp <;> omega
def verOk (v : T_api_Version) : Bool := if v.Tx = 0 then idOk v.Key && decide (v.Nth = 0) else idOk v.Tx && idOk v.Key && decide (1 ≤ v.Nth ∧ v.Nth ≤ 4095)
theorem ref_Version_eq (v : T_api_Version) : tenterref02_RightVersion v = some (verOk v) := by
  unfold tenterref02_RightVersion verOk
  simp only [ref_Id_eq, some_bind', bif_beq, bif_dec, beq_dec]
  by_cases h : v.Tx = 0
  · simp only [h, if_true]
    cases idOk v.Key <;> simp
  · simp only [h, if_false]
    cases idOk v.Tx <;> cases idOk v.Key <;> simp only [cond_true, cond_false, Bool.true_and, Bool.false_and, Bool.and_false]
    by_cases h1 : v.Nth ≥ 1
    · rw [if_pos h1]; simp [h1]
    · rw [if_neg h1]; simp; omega
theorem pack_Version_eq (v : T_api_Version) : ∃ n, pack_Version v = some (n, if verOk v = true then 0 else 1) := by
  unfold pack_Version verOk
  simp only [pack_id_eq, some_bind', bif_beq, bif_dec]
  by_cases h : v.Tx = 0
  · simp only [h, if_true]
    by_cases h2 : v.Nth = 0
    · simp only [h2, if_true]
      cases idOk v.Key
      · exact ⟨_, rfl⟩
      · exact ⟨_, rfl⟩
    · have h3 : idOk 0 = false := by decide
      simp only [h2, if_false, h3]
      exact ⟨0, by simp⟩
  · simp only [h, if_false]
    cases idOk v.Tx <;> cases idOk v.Key <;> simp only [cond_true, cond_false, Bool.true_and, Bool.false_and, Bool.and_false]
    · exact ⟨0, by simp⟩
    · exact ⟨0, by simp⟩
    · exact ⟨0, by simp⟩
    · by_cases h1 : v.Nth < 1
      · rw [if_pos h1]; exact ⟨0, by simp; omega⟩
      · rw [if_neg h1]
        by_cases h2 : v.Nth > 4095
        · rw [if_pos h2]; exact ⟨0, by simp; omega⟩
        · rw [if_neg h2, if_pos (show decide (1 ≤ v.Nth ∧ v.Nth ≤ 4095) = true by simp; omega)]; exact ⟨_, rfl⟩

def opOk (o : T_api_Op) : Bool := if o.Read = true then verOk ⟨o.Tx, o.Key, o.Nth⟩ else idOk o.Key && decide (o.Tx = 0) && decide (o.Nth = 0)
def opT (o : T_api_Op) : List UInt8 :=
  if opOk o = true then
    if o.Read = true then (if o.Tx = 0 then [114] ++ intText o.Key ++ [64] ++ [48] else [114] ++ intText o.Key ++ [64] ++ intText o.Tx ++ [46] ++ intText o.Nth) else [119] ++ intText o.Key
  else []
theorem op_Right_eq (o : T_api_Op) : op_Right o = some (if opOk o = true then 0 else 1) := by
  unfold op_Right op_Of opOk
  cases hr : o.Read with
  | true =>
    obtain ⟨n, h⟩ := pack_Version_eq ⟨o.Tx, o.Key, o.Nth⟩
    simp only [cond_true, some_bind', h, if_true]
  | false =>
    simp only [cond_false, bif_dec, beq_dec, Bool.false_eq_true, if_false, decide_true, Bool.true_and, Bool.and_true, beq_self_eq_true]
    by_cases h1 : o.Tx = 0 <;> by_cases h2 : o.Nth = 0 <;> simp only [h1, h2, decide_true, decide_false, Bool.and_true, Bool.and_false, Bool.true_and, Bool.false_and, cond_true, cond_false, Bool.false_eq_true, if_false]
    unfold idOk
    by_cases h3 : o.Key < 1
    · rw [if_pos h3, if_neg (by simp; omega)]
    · rw [if_neg h3]
      by_cases h4 : o.Key > 1048575
      · rw [if_pos h4, if_neg (by simp; omega)]
      · rw [if_neg h4, if_pos (by simp; omega)]
theorem ref_Right_eq (o : T_api_Op) : tenterref09_Right o = some (opOk o) := by
  unfold tenterref09_Right tenterref09_Of opOk
  cases hr : o.Read with
  | true => simp only [cond_true, some_bind', ref_Version_eq, if_true]
  | false =>
    simp only [cond_false, some_bind', ref_Id_eq, bif_beq, beq_dec, Bool.false_eq_true, if_false]
    by_cases h0 : o.Tx = 0 <;> cases idOk o.Key <;> simp [h0]
theorem intText_zero : intText 0 = [48] := by
  unfold intText
  rw [if_neg (by omega), show (0 : Int).toNat = 0 from rfl, natText_small (by omega)]; rfl
theorem op_Text_eq {o : T_api_Op} (h : V_api_Op o) : op_Text o = some (opT o) := by
  obtain ⟨_, hk, ht, hn⟩ := h
  have lk := intText_len hk
  have lt := intText_len ht
  have ln := intText_len hn
  unfold op_Text opT
  simp only [op_Right_eq, some_bind', bne_dec, bif_dec]
  cases opOk o with
  | false => simp
  | true =>
    simp only [if_true, ne_eq, not_true, decide_false, if_false]
    cases o.Read with
    | true =>
      simp only [cond_true, if_true, bif_beq]
      by_cases h0 : o.Tx = 0
      · simp (disch := first | assumption | (simp only [List.length_append, List.length_cons, List.length_nil]; omega)) only [h0, if_true, numText_eq, cat_eq, some_bind']
        simp
      · simp (disch := first | assumption | (simp only [List.length_append, List.length_cons, List.length_nil]; omega)) only [h0, if_false, numText_eq, cat_eq, some_bind']
    | false =>
      simp (disch := first | assumption | (simp only [List.length_append, List.length_cons, List.length_nil]; omega)) only [cond_false, numText_eq, cat_eq, some_bind']
      simp
theorem ref_opText_eq {o : T_api_Op} (h : V_api_Op o) : tenterref09_Text o = some (opT o) := by
  obtain ⟨_, hk, ht, hn⟩ := h
  have lk := intText_len hk
  have lt := intText_len ht
  have ln := intText_len hn
  unfold tenterref09_Text opT
  simp only [ref_Right_eq, some_bind']
  cases opOk o with
  | false => simp
  | true =>
    simp only [if_true, cond_true]
    cases o.Read with
    | true =>
      simp only [cond_true, if_true, bif_beq]
      simp (disch := first | assumption | (simp only [List.length_append, List.length_cons, List.length_nil]; omega)) only [numText_eq, cat_eq, some_bind']
      by_cases h0 : o.Tx = 0
      · simp only [h0, if_true, intText_zero]
      · simp (disch := first | assumption | (simp only [List.length_append, List.length_cons, List.length_nil]; omega)) only [h0, if_false, numText_eq, cat_eq, some_bind']
    | false =>
      simp (disch := first | assumption | (simp only [List.length_append, List.length_cons, List.length_nil]; omega)) only [cond_false, numText_eq, cat_eq, some_bind']
      simp
theorem opT_len {o : T_api_Op} (h : V_api_Op o) : (opT o).length ≤ 70 := by
  obtain ⟨_, hk, ht, hn⟩ := h
  have lk := intText_len hk
  have lt := intText_len ht
  have ln := intText_len hn
  unfold opT
  split
  · split
    · split <;> simp only [List.length_append, List.length_cons, List.length_nil] <;> omega
    · simp only [List.length_append, List.length_cons, List.length_nil]; omega
  · simp

/- Walks. -/
def wordT (k : Int) : List UInt8 := if k = 1 then [119, 119] else if k = 2 then [119, 114] else if k = 3 then [114, 119] else [120]
theorem wordT_len (k : Int) : (wordT k).length ≤ 2 := by
  unfold wordT
  split
  · decide
  · split
    · decide
    · split <;> decide
theorem walk_word_eq (k : Int) : walk_word k = some (wordT k) := by
  unfold walk_word wordT
  simp only [bif_beq]
  split
  · rfl
  · split
    · rfl
    · split <;> rfl
theorem ref_word_eq (k : Int) : tenterref28_Word k = some (wordT k) := walk_word_eq k
def edgeT (e : T_api_Edge) : List UInt8 := [32] ++ wordT e.Kind ++ intText e.Key ++ [32] ++ intText e.To
def walkT : List T_api_Edge → List UInt8
  | [] => []
  | e :: l => intText e.From ++ (e :: l).flatMap edgeT
theorem edgeT_len {e : T_api_Edge} (h : V_api_Edge e) : (edgeT e).length ≤ 46 := by
  obtain ⟨_, h1, _, h2⟩ := h
  have := intText_len h1
  have := intText_len h2
  have := wordT_len e.Kind
  unfold edgeT
  simp only [List.length_append, List.length_cons, List.length_nil]; omega
theorem walkT_len {l : List T_api_Edge} (h : ∀ e ∈ l, V_api_Edge e) : (walkT l).length ≤ 21 + l.length * 46 := by
  cases l with
  | nil => simp [walkT]
  | cons e l =>
    have h1 := intText_len (h e (by simp)).1
    have h2 := flatMap_len edgeT 46 (e :: l) (fun x hx => edgeT_len (h x hx))
    simp only [walkT, List.length_append]; omega
theorem walkT_succ {l : List T_api_Edge} {i : Nat} (hi : i < l.length) : walkT (l.take (i + 1)) = (if i = 0 then intText l[i].From else walkT (l.take i)) ++ edgeT l[i] := by
  rw [take_succ' hi]
  cases l with
  | nil => simp at hi
  | cons e l =>
    cases i with
    | zero => simp [walkT]
    | succ i =>
      have h2 : i < l.length := by simpa using hi
      rw [if_neg (by omega)]
      show intText e.From ++ (e :: (l.take i ++ [l[i]])).flatMap edgeT = (intText e.From ++ (e :: l.take i).flatMap edgeT) ++ edgeT l[i]
      simp only [List.flatMap_cons, List.flatMap_append, List.flatMap_nil, List.append_nil, List.append_assoc]
theorem walk_Text_eq {l : List T_api_Edge} (h : VL V_api_Edge l) (hl : l.length ≤ 40) : walk_Text l = some (walkT l) := by
  have hT : ∀ i, (walkT (l.take i)).length ≤ 21 + 40 * 46 := fun i => by
    have := walkT_len (l := l.take i) (fun e he => h.2 e (List.mem_of_mem_take he))
    have : (l.take i).length ≤ 40 := by simp; omega
    omega
  have key : walk_Text_l1 l fuel 0 [] = some (walkT l) := by
    refine loop_run (F := fun fk i => walk_Text_l1 l fk (i : Int) (walkT (l.take i))) (n := l.length) (fun fk i hi => ?_) (fun fk => ?_) h.1
    · have hv := h.get hi
      have h1 := intText_len hv.1
      have h2 := intText_len hv.2.1
      have h4 := intText_len hv.2.2.2
      have h3 := wordT_len l[i].Kind
      have h5 := hT i
      obtain ⟨v1, v2, v3, v4⟩ := hv
      have e1 : decide ((i : Int) < (l.length : Int)) = true := by simp; omega
      show walk_Text_l1 l (fk + 1) (i : Int) (walkT (l.take i)) = walk_Text_l1 l fk ((i + 1 : Nat) : Int) (walkT (l.take (i + 1)))
      rw [walk_Text_l1.eq_2, e1, cond_true, idx_nat hi, some_bind', wrap_succ (by omega), walkT_succ hi]
      rw [bif_beq]
      by_cases h0 : i = 0
      · rw [if_pos (by omega), if_pos h0]
        have h6 : walkT (l.take i) = [] := by subst h0; rfl
        rw [h6]
        simp (disch := first | assumption | (simp only [List.length_append, List.length_cons, List.length_nil]; omega)) only [numText_eq, walk_word_eq, cat_eq, app_eq, some_bind']
        simp [edgeT]
      · rw [if_neg (by omega), if_neg h0]
        simp (disch := first | assumption | (simp only [List.length_append, List.length_cons, List.length_nil]; omega)) only [numText_eq, walk_word_eq, cat_eq, app_eq, some_bind']
        simp [edgeT]
    · have e1 : decide ((l.length : Int) < (l.length : Int)) = false := by simp
      show walk_Text_l1 l (fk + 1) (l.length : Int) (walkT (l.take l.length)) = _
      rw [walk_Text_l1.eq_2, e1, cond_false, List.take_length]
  have := hT l.length
  rw [List.take_length] at this
  unfold walk_Text
  rw [key, some_bind', str_eq (by omega)]; rfl
theorem ref_walkText_eq {l : List T_api_Edge} (h : VL V_api_Edge l) (hl : l.length ≤ 40) : tenterref28_Text l = some (walkT l) := by
  have hT : ∀ i, (walkT (l.take i)).length ≤ 21 + 40 * 46 := fun i => by
    have := walkT_len (l := l.take i) (fun e he => h.2 e (List.mem_of_mem_take he))
    have : (l.take i).length ≤ 40 := by simp; omega
    omega
  have key : tenterref28_Text_l1 l fuel [] 0 = some (walkT l) := by
    refine loop_run (F := fun fk i => tenterref28_Text_l1 l fk (walkT (l.take i)) (i : Int)) (n := l.length) (fun fk i hi => ?_) (fun fk => ?_) h.1
    · have hv := h.get hi
      have h1 := intText_len hv.1
      have h2 := intText_len hv.2.1
      have h4 := intText_len hv.2.2.2
      have h3 := wordT_len l[i].Kind
      have h5 := hT i
      obtain ⟨v1, v2, v3, v4⟩ := hv
      have e1 : decide ((i : Int) < (l.length : Int)) = true := by simp; omega
      show tenterref28_Text_l1 l (fk + 1) (walkT (l.take i)) (i : Int) = tenterref28_Text_l1 l fk (walkT (l.take (i + 1))) ((i + 1 : Nat) : Int)
      rw [tenterref28_Text_l1.eq_2, e1, cond_true, idx_nat hi, some_bind', wrap_succ (by omega), walkT_succ hi]
      rw [bif_beq]
      by_cases h0 : i = 0
      · rw [if_pos (by omega), if_pos h0]
        simp (disch := first | assumption | (simp only [List.length_append, List.length_cons, List.length_nil]; omega)) only [numText_eq, ref_word_eq, cat_eq, app_eq, some_bind']
        simp [edgeT]
      · rw [if_neg (by omega), if_neg h0]
        simp (disch := first | assumption | (simp only [List.length_append, List.length_cons, List.length_nil]; omega)) only [numText_eq, ref_word_eq, cat_eq, app_eq, some_bind']
        simp [edgeT]
    · have e1 : decide ((l.length : Int) < (l.length : Int)) = false := by simp
      show tenterref28_Text_l1 l (fk + 1) (walkT (l.take l.length)) (l.length : Int) = _
      rw [tenterref28_Text_l1.eq_2, e1, cond_false, List.take_length]
  unfold tenterref28_Text
  rw [key]; rfl

/- Transactions. -/
def txT (t : T_api_Tx) : List UInt8 := (intText t.Id ++ (if t.Done = true then [32, 99] else [32, 97])) ++ t.Ops.flatMap fun o => [32] ++ opT o
def opsT (b : List UInt8) (l : List T_api_Op) : List UInt8 := b ++ l.flatMap fun o => [32] ++ opT o
theorem opsT_len {b : List UInt8} {l : List T_api_Op} (h : ∀ o ∈ l, V_api_Op o) (hb : b.length ≤ 30) : (opsT b l).length ≤ 30 + l.length * 71 := by
  have := flatMap_len (fun o => [32] ++ opT o) 71 l (fun o ho => by have := opT_len (h o ho); simp only [List.length_append, List.length_cons, List.length_nil]; omega)
  simp only [opsT, List.length_append]; omega
theorem opsT_succ (b : List UInt8) {l : List T_api_Op} {i : Nat} (hi : i < l.length) : opsT b (l.take (i + 1)) = opsT b (l.take i) ++ ([32] ++ opT l[i]) := by
  rw [take_succ' hi]
  simp only [opsT, List.flatMap_append, List.flatMap_cons, List.flatMap_nil, List.append_nil, List.append_assoc]
theorem txn_l1_eq {t : T_api_Tx} (h : V_api_Tx t) (hl : t.Ops.length ≤ 60) {b : List UInt8} (hb : b.length ≤ 30) : txn_Text_l1 t fuel 0 b = some (opsT b t.Ops) := by
  obtain ⟨_, _, ho⟩ := h
  have hT : ∀ i, (opsT b (t.Ops.take i)).length ≤ 30 + 60 * 71 := fun i => by
    have := opsT_len (b := b) (l := t.Ops.take i) (fun e he => ho.2 e (List.mem_of_mem_take he)) hb
    have : (t.Ops.take i).length ≤ 60 := by simp; omega
    omega
  have e0 : opsT b (t.Ops.take 0) = b := by simp [opsT]
  have := loop_run (F := fun fk i => txn_Text_l1 t fk (i : Int) (opsT b (t.Ops.take i))) (n := t.Ops.length) (r := opsT b t.Ops) (fun fk i hi => ?_) (fun fk => ?_) ho.1
  · rw [e0] at this; exact this
  · have hv := ho.get hi
    have h1 := opT_len hv
    have h5 := hT i
    have e1 : decide ((i : Int) < (t.Ops.length : Int)) = true := by simp; omega
    show txn_Text_l1 t (fk + 1) (i : Int) (opsT b (t.Ops.take i)) = txn_Text_l1 t fk ((i + 1 : Nat) : Int) (opsT b (t.Ops.take (i + 1)))
    rw [txn_Text_l1.eq_2, e1, cond_true, idx_nat hi, some_bind', wrap_succ (by omega), opsT_succ b hi]
    simp (disch := first | assumption | (simp only [List.length_append, List.length_cons, List.length_nil]; omega)) only [op_Text_eq, cat_eq, app_eq, some_bind']
  · have e1 : decide ((t.Ops.length : Int) < (t.Ops.length : Int)) = false := by simp
    show txn_Text_l1 t (fk + 1) (t.Ops.length : Int) (opsT b (t.Ops.take t.Ops.length)) = _
    rw [txn_Text_l1.eq_2, e1, cond_false, List.take_length]
theorem txn_l2_l1 (t : T_api_Tx) : ∀ (m : Nat) (i : Int) (b : List UInt8), txn_Text_l2 t m i b = txn_Text_l1 t m i b
  | 0, _, _ => rfl
  | m + 1, i, b => by
    rw [txn_Text_l2.eq_2, txn_Text_l1.eq_2]
    simp only [txn_l2_l1 t m]
theorem ref10_l1_eq {t : T_api_Tx} (h : V_api_Tx t) (hl : t.Ops.length ≤ 60) {b : List UInt8} (hb : b.length ≤ 30) : tenterref10_Text_l1 t fuel b 0 = some (opsT b t.Ops) := by
  obtain ⟨_, _, ho⟩ := h
  have hT : ∀ i, (opsT b (t.Ops.take i)).length ≤ 30 + 60 * 71 := fun i => by
    have := opsT_len (b := b) (l := t.Ops.take i) (fun e he => ho.2 e (List.mem_of_mem_take he)) hb
    have : (t.Ops.take i).length ≤ 60 := by simp; omega
    omega
  have e0 : opsT b (t.Ops.take 0) = b := by simp [opsT]
  have := loop_run (F := fun fk i => tenterref10_Text_l1 t fk (opsT b (t.Ops.take i)) (i : Int)) (n := t.Ops.length) (r := opsT b t.Ops) (fun fk i hi => ?_) (fun fk => ?_) ho.1
  · rw [e0] at this; exact this
  · have hv := ho.get hi
    have h1 := opT_len hv
    have h5 := hT i
    have e1 : decide ((i : Int) < (t.Ops.length : Int)) = true := by simp; omega
    show tenterref10_Text_l1 t (fk + 1) (opsT b (t.Ops.take i)) (i : Int) = tenterref10_Text_l1 t fk (opsT b (t.Ops.take (i + 1))) ((i + 1 : Nat) : Int)
    rw [tenterref10_Text_l1.eq_2, e1, cond_true, idx_nat hi, some_bind', wrap_succ (by omega), opsT_succ b hi]
    simp (disch := first | assumption | (simp only [List.length_append, List.length_cons, List.length_nil]; omega)) only [ref_opText_eq, cat_eq, app_eq, some_bind']
  · have e1 : decide ((t.Ops.length : Int) < (t.Ops.length : Int)) = false := by simp
    show tenterref10_Text_l1 t (fk + 1) (opsT b (t.Ops.take t.Ops.length)) (t.Ops.length : Int) = _
    rw [tenterref10_Text_l1.eq_2, e1, cond_false, List.take_length]
theorem ref10_l2_l1 (t : T_api_Tx) : ∀ (m : Nat) (b : List UInt8) (i : Int), tenterref10_Text_l2 t m b i = tenterref10_Text_l1 t m b i
  | 0, _, _ => rfl
  | m + 1, b, i => by
    rw [tenterref10_Text_l2.eq_2, tenterref10_Text_l1.eq_2]
    simp only [ref10_l2_l1 t m]
theorem txT_len {t : T_api_Tx} (h : V_api_Tx t) (hl : t.Ops.length ≤ 60) : (txT t).length ≤ 30 + 60 * 71 := by
  have h1 := intText_len h.1
  have := opsT_len (b := intText t.Id ++ (if t.Done = true then [32, 99] else [32, 97])) (l := t.Ops) h.2.2.2 (by split <;> simp only [List.length_append, List.length_cons, List.length_nil] <;> omega)
  unfold opsT at this
  unfold txT
  omega
theorem txn_Text_eq {t : T_api_Tx} (h : V_api_Tx t) (hl : t.Ops.length ≤ 60) : txn_Text t = some (txT t) := by
  have h1 := intText_len h.1
  have h2 := txT_len h hl
  obtain ⟨hi, _, _⟩ := id h
  unfold txn_Text
  unfold txT at h2 ⊢
  simp (disch := first | assumption | (simp only [List.length_append, List.length_cons, List.length_nil]; omega)) only [numText_eq, app_eq, some_bind', List.nil_append]
  cases hd : t.Done with
  | true =>
    rw [hd] at h2
    simp only [if_true] at h2
    simp (disch := first | assumption | (simp only [List.length_append, List.length_cons, List.length_nil]; omega)) only [cond_true, app_eq, some_bind', txn_l1_eq h hl, opsT, if_true]
    rw [str_eq (by omega)]; rfl
  | false =>
    rw [hd] at h2
    simp only [Bool.false_eq_true, if_false] at h2
    simp (disch := first | assumption | (simp only [List.length_append, List.length_cons, List.length_nil]; omega)) only [cond_false, app_eq, some_bind', txn_l2_l1, txn_l1_eq h hl, opsT, Bool.false_eq_true, if_false]
    rw [str_eq (by omega)]; rfl
theorem ref10_Text_eq {t : T_api_Tx} (h : V_api_Tx t) (hl : t.Ops.length ≤ 60) : tenterref10_Text t = some (txT t) := by
  have h1 := intText_len h.1
  obtain ⟨hi, _, _⟩ := id h
  unfold tenterref10_Text
  unfold txT
  simp (disch := first | assumption | (simp only [List.length_append, List.length_cons, List.length_nil]; omega)) only [numText_eq, cat_eq, some_bind', ref10_l2_l1]
  cases hd : t.Done with
  | true =>
    simp (disch := first | assumption | (simp only [List.length_append, List.length_cons, List.length_nil]; omega)) only [cond_true, ref10_l1_eq h hl, some_bind', opsT, if_true]
  | false =>
    simp (disch := first | assumption | (simp only [List.length_append, List.length_cons, List.length_nil]; omega)) only [cond_false, ref10_l1_eq h hl, some_bind', opsT, Bool.false_eq_true, if_false]

/- Histories: light ones; weights. -/
theorem Light_eq {h : T_api_History} (hv : V_api_History h) : tenterref12_Light h = some (decide (h.Txs.length ≤ 12) && decide (h.Orders.length ≤ 24) && !(h.Txs.any fun t => decide (24 < t.Ops.length)) && !(h.Orders.any fun o => decide (24 < o.Txs.length))) := by
  have k1 : tenterref12_Light_l1 h fuel 0 = some (if (h.Txs.any fun t => decide (24 < t.Ops.length)) = true then .inr () else .inl ()) := by
    refine loop_any (F := fun fk i => tenterref12_Light_l1 h fk (i : Int)) (l := h.Txs) (fun fk i hi => ?_) (fun fk => ?_) hv.1.1
    · have e1 : decide ((i : Int) < (h.Txs.length : Int)) = true := by simp; omega
      show tenterref12_Light_l1 h (fk + 1) (i : Int) = _
      have := hv.1.1
      rw [tenterref12_Light_l1.eq_2, e1, cond_true, idx_nat hi, some_bind', wrap_succ (by omega), bif_dec]
      by_cases c : 24 < h.Txs[i].Ops.length
      · rw [if_pos (by omega), if_pos (by simpa using c)]
      · rw [if_neg (by omega), if_neg (by simpa using c)]
    · have e1 : decide ((h.Txs.length : Int) < (h.Txs.length : Int)) = false := by simp
      show tenterref12_Light_l1 h (fk + 1) (h.Txs.length : Int) = _
      rw [tenterref12_Light_l1.eq_2, e1, cond_false]
  have k2 : tenterref12_Light_l2 h fuel 0 = some (if (h.Orders.any fun t => decide (24 < t.Txs.length)) = true then .inr () else .inl ()) := by
    refine loop_any (F := fun fk i => tenterref12_Light_l2 h fk (i : Int)) (l := h.Orders) (fun fk i hi => ?_) (fun fk => ?_) hv.2.1
    · have e1 : decide ((i : Int) < (h.Orders.length : Int)) = true := by simp; omega
      show tenterref12_Light_l2 h (fk + 1) (i : Int) = _
      have := hv.2.1
      rw [tenterref12_Light_l2.eq_2, e1, cond_true, idx_nat hi, some_bind', wrap_succ (by omega), bif_dec]
      by_cases c : 24 < h.Orders[i].Txs.length
      · rw [if_pos (by omega), if_pos (by simpa using c)]
      · rw [if_neg (by omega), if_neg (by simpa using c)]
    · have e1 : decide ((h.Orders.length : Int) < (h.Orders.length : Int)) = false := by simp
      show tenterref12_Light_l2 h (fk + 1) (h.Orders.length : Int) = _
      rw [tenterref12_Light_l2.eq_2, e1, cond_false]
  unfold tenterref12_Light
  simp only [bif_dec, k1, k2]
  by_cases c1 : h.Txs.length ≤ 12
  · rw [if_neg (by omega)]
    by_cases c2 : h.Orders.length ≤ 24
    · rw [if_neg (by omega)]
      simp only [c1, c2, decide_true, Bool.true_and]
      generalize (h.Txs.any fun t => decide (24 < t.Ops.length)) = a
      generalize (h.Orders.any fun t => decide (24 < t.Txs.length)) = b
      cases a <;> cases b <;> rfl
    · rw [if_pos (by omega)]; simp [c2]
  · rw [if_pos (by omega)]; simp [c1]
theorem Light_yes {h : T_api_History} (hv : V_api_History h) (hl : tenterref12_Light h = some true) : h.Txs.length ≤ 12 ∧ h.Orders.length ≤ 24 ∧ (∀ t ∈ h.Txs, t.Ops.length ≤ 24) ∧ ∀ o ∈ h.Orders, o.Txs.length ≤ 24 := by
  rw [Light_eq hv] at hl
  simp only [Option.some.injEq, Bool.and_eq_true, decide_eq_true_eq, Bool.not_eq_true', List.any_eq_false] at hl
  exact ⟨hl.1.1.1, hl.1.1.2, fun t ht => by have := hl.1.2 t ht; omega, fun o ho => by have := hl.2 o ho; omega⟩
def weightN (l : List T_api_Tx) : Nat := (l.map fun t => t.Ops.length + 1).sum
theorem weightN_le {l : List T_api_Tx} (h : ∀ t ∈ l, t.Ops.length ≤ 24) : weightN l ≤ l.length * 25 := by
  induction l with
  | nil => simp [weightN]
  | cons a l ih =>
    have h1 := h a (by simp)
    have h2 := ih (fun t ht => h t (by simp [ht]))
    unfold weightN at h2 ⊢
    simp only [List.map_cons, List.sum_cons, List.length_cons, Nat.add_mul]; omega
theorem weightN_succ {l : List T_api_Tx} {i : Nat} (hi : i < l.length) : weightN (l.take (i + 1)) = weightN (l.take i) + (l[i].Ops.length + 1) := by
  rw [take_succ' hi]
  simp only [weightN, List.map_append, List.sum_append, List.map_cons, List.map_nil, List.sum_cons, List.sum_nil, Nat.add_zero]
theorem Weight_eq {h : T_api_History} (h1 : h.Txs.length ≤ 12) (h2 : ∀ t ∈ h.Txs, t.Ops.length ≤ 24) : history_Weight h = some (weightN h.Txs : Int) := by
  have hT : ∀ i, weightN (h.Txs.take i) ≤ 300 := fun i => by
    have := weightN_le (l := h.Txs.take i) (fun e he => h2 e (List.mem_of_mem_take he))
    have : (h.Txs.take i).length ≤ 12 := by simp; omega
    omega
  have key : history_Weight_l1 h fuel 0 0 = some (weightN h.Txs : Int) := by
    refine loop_run (F := fun fk i => history_Weight_l1 h fk (weightN (h.Txs.take i) : Int) (i : Int)) (n := h.Txs.length) (fun fk i hi => ?_) (fun fk => ?_) (by omega)
    · have h5 := hT i
      have h6 := h2 _ (List.getElem_mem hi)
      have e1 : decide ((i : Int) < (h.Txs.length : Int)) = true := by simp; omega
      show history_Weight_l1 h (fk + 1) (weightN (h.Txs.take i) : Int) (i : Int) = history_Weight_l1 h fk (weightN (h.Txs.take (i + 1)) : Int) ((i + 1 : Nat) : Int)
      rw [history_Weight_l1.eq_2, e1, cond_true, idx_nat hi, some_bind', wrap_succ (by omega), weightN_succ hi]
      unfold txn_Weight
      rw [some_bind', wrap_small (n := (h.Txs[i].Ops.length : Int) + 1) (by omega) (by omega), wrap_small (by omega) (by omega)]
      congr 1
    · have e1 : decide ((h.Txs.length : Int) < (h.Txs.length : Int)) = false := by simp
      show history_Weight_l1 h (fk + 1) (weightN (h.Txs.take h.Txs.length) : Int) (h.Txs.length : Int) = _
      rw [history_Weight_l1.eq_2, e1, cond_false, List.take_length]
  unfold history_Weight
  rw [key]; rfl
theorem ref_weight_l1 (h : T_api_History) : ∀ (m : Nat) (n i : Int), tenterref12_Weight_l1 h m n i = history_Weight_l1 h m n i
  | 0, _, _ => rfl
  | m + 1, n, i => by
    rw [tenterref12_Weight_l1.eq_2, history_Weight_l1.eq_2]
    simp only [ref_weight_l1 h m]; rfl
theorem ref_Weight_eq {h : T_api_History} (h1 : h.Txs.length ≤ 12) (h2 : ∀ t ∈ h.Txs, t.Ops.length ≤ 24) : tenterref12_Weight h = some (weightN h.Txs : Int) := by
  rw [← Weight_eq h1 h2]
  unfold tenterref12_Weight history_Weight
  rw [ref_weight_l1]

/- Words, names. -/
def levT (n : Int) : List UInt8 := if 0 ≤ n ∧ n < 4 then ([[110, 111, 110, 101], [80, 76, 45, 49], [80, 76, 45, 50], [80, 76, 45, 51]] : List (List UInt8)).getD n.toNat [] else []
theorem idx_in {α : Type} {l : List α} {n : Int} (d : α) (h0 : 0 ≤ n) (h1 : n < l.length) : idx? l n = some (l.getD n.toNat d) := by
  unfold idx?
  rw [if_pos h0, List.getD, List.getElem?_eq_getElem (by omega)]; rfl
theorem getD_len (B : Nat) : ∀ (l : List (List UInt8)) (i : Nat), (∀ x ∈ l, x.length ≤ B) → (l.getD i []).length ≤ B
  | [], i, _ => by simp
  | a :: l, 0, h => h a (by simp)
  | a :: l, i + 1, h => by simpa using getD_len B l i (fun x hx => h x (by simp [hx]))
theorem levT_len (n : Int) : (levT n).length ≤ 4 := by
  unfold levT
  split
  · exact getD_len 4 _ _ (by decide)
  · simp
theorem level_Word_eq (n : Int) : level_Word n = some (levT n) := by
  unfold level_Word levT
  simp only [bif_dec]
  by_cases h0 : n < 0
  · rw [if_pos h0, if_neg (by omega)]
  · rw [if_neg h0]
    by_cases h1 : n ≥ 4
    · rw [if_pos h1, if_neg (by omega)]
    · rw [if_neg h1, if_pos (by omega), guard_t (by simp; omega), idx_in [] (by omega) (by simp; omega)]; rfl
theorem ref33_Word_eq (n : Int) : tenterref33_Word n = some (levT n) := by
  unfold tenterref33_Word levT
  simp only [bif_dec]
  by_cases h0 : n < 0
  · rw [if_pos h0, if_neg (by omega)]
  · rw [if_neg h0]
    by_cases h1 : n > 3
    · rw [if_pos h1, if_neg (by omega)]
    · rw [if_neg h1, if_pos (by omega), idx_in [] (by omega) (by simp; omega)]; rfl
def nameT (p : Int) : List UInt8 := if p = 1 then [71, 48] else if p = 2 then [71, 49, 97] else if p = 3 then [71, 49, 98] else if p = 4 then [71, 49, 99] else if p = 5 then [71, 50, 45, 105, 116, 101, 109] else []
theorem nameT_len (p : Int) : (nameT p).length ≤ 7 := by
  unfold nameT
  repeat (first | decide | split)
theorem level_Name_eq (p : Int) : level_Name p = some (nameT p) := by
  unfold level_Name level_said nameT
  simp only [bif_beq]
  repeat (first | rfl | split)
theorem ref33_Name_eq (p : Int) : tenterref33_Name p = some (nameT p) := by
  unfold tenterref33_Name
  simp only [bif_dec]
  by_cases h0 : p < 0
  · rw [if_pos h0]; unfold nameT
    rw [if_neg (by omega), if_neg (by omega), if_neg (by omega), if_neg (by omega), if_neg (by omega)]
  · rw [if_neg h0]
    by_cases h1 : p > 5
    · rw [if_pos h1]; unfold nameT
      rw [if_neg (by omega), if_neg (by omega), if_neg (by omega), if_neg (by omega), if_neg (by omega)]
    · rw [if_neg h1]
      have : p = 0 ∨ p = 1 ∨ p = 2 ∨ p = 3 ∨ p = 4 ∨ p = 5 := by omega
      rcases this with rfl | rfl | rfl | rfl | rfl | rfl <;> rfl
theorem render_Word_eq (e : Int) : render_Word e = tenterref41_Word e := by
  unfold render_Word tenterref41_Word
  simp only [bif_dec]
  by_cases h0 : e < 0
  · rw [if_pos h0, if_pos h0]
  · rw [if_neg h0, if_neg h0]
    by_cases h1 : e ≥ 18
    · rw [if_pos h1, if_pos (by omega)]
    · rw [if_neg h1, if_neg (by omega), guard_t (by simp; omega)]
theorem ref41_Word_some (e : Int) : ∃ l, tenterref41_Word e = some l ∧ l.length ≤ 10 ∧ (e = 0 → l = [111, 107]) := by
  unfold tenterref41_Word
  simp only [bif_dec]
  by_cases h0 : e < 0
  · rw [if_pos h0]; exact ⟨_, rfl, by decide, by omega⟩
  · rw [if_neg h0]
    by_cases h1 : e > 17
    · rw [if_pos h1]; exact ⟨_, rfl, by decide, by omega⟩
    · rw [if_neg h1, idx_in [] (by omega) (by simp; omega)]
      exact ⟨_, rfl, getD_len 10 _ _ (by decide), fun h => by subst h; rfl⟩

/- Answers. -/
theorem Done_eq (e : Int) : ∃ l, render_Done e = some l ∧ tenterref41_Done e = some l := by
  obtain ⟨l, h1, h2, h3⟩ := ref41_Word_some e
  unfold render_Done tenterref41_Done
  simp only [bif_beq, render_Word_eq, h1, some_bind']
  by_cases h0 : e = 0
  · have := h3 h0
    subst this
    refine ⟨[111, 107, 10], ?_, ?_⟩ <;> rw [if_pos h0]
    rfl
  · refine ⟨[110, 111, 32] ++ l ++ [10], ?_, ?_⟩ <;>
      (rw [if_neg h0]; simp (disch := first | assumption | (simp only [List.length_append, List.length_cons, List.length_nil]; omega)) only [cat_eq, some_bind'])
theorem join6 (a b c d e f s : List UInt8) : Lib.join [a, b, c, d, e, f] s = a ++ s ++ b ++ s ++ c ++ s ++ d ++ s ++ e ++ s ++ f := by
  simp [Lib.join, List.intercalate, List.intersperse]
theorem join3 (a b c s : List UInt8) : Lib.join [a, b, c] s = a ++ s ++ b ++ s ++ c := by
  simp [Lib.join, List.intercalate, List.intersperse]
theorem join10 (a b c d e f g h i j s : List UInt8) : Lib.join [a, b, c, d, e, f, g, h, i, j] s = a ++ s ++ b ++ s ++ c ++ s ++ d ++ s ++ e ++ s ++ f ++ s ++ g ++ s ++ h ++ s ++ i ++ s ++ j := by
  simp [Lib.join, List.intercalate, List.intersperse]
theorem joinS_eq {l : List (List UInt8)} {s : List UInt8} (h1 : l.length ≤ 140737488355328) (h2 : (Lib.join l s).length ≤ 140737488355328) : joinS l s = some (Lib.join l s) := by
  unfold joinS; exact if_pos ⟨h1, h2⟩
theorem fuel_6 : ∃ m, fuel = m + 1 + 1 + 1 + 1 + 1 + 1 := ⟨18446744073709551610, by rw [fuel_eq]⟩
def signT (b : Bool) : List UInt8 := if b = true then [43] else [45]
theorem signT_len (b : Bool) : (signT b).length = 1 := by cases b <;> rfl
def hasAt (v : T_api_Verdict) (p : Int) : Bool := ([v.Has.a0, v.Has.a1, v.Has.a2, v.Has.a3, v.Has.a4, v.Has.a5] : List Bool).getD p.toNat false
theorem verdict_step (v : T_api_Verdict) (m : Nat) (w : List (List UInt8)) (p : Int) (h0 : 0 ≤ p) (h1 : p < 6) (hw : w.length ≤ 10) : render_Verdict_l1 v (m + 1) w p = render_Verdict_l1 v m (w ++ [nameT p ++ signT (hasAt v p)]) (p + 1) := by
  have hl := nameT_len p
  have e1 : decide (p < 6) = true := by simp [h1]
  have e2 : decide (0 ≤ p ∧ p < 6) = true := by simp [h0, h1]
  have e3 : IntKind.i64.wrap (p + 1) = p + 1 := wrap_small (by omega) (by omega)
  rw [render_Verdict_l1.eq_2, e1, cond_true, guard_t e2, idx_in false h0 (by simp; omega), some_bind']
  show (bif hasAt v p then _ else _) = _
  cases hasAt v p <;> simp (disch := first | assumption | (simp only [List.length_append, List.length_cons, List.length_nil]; omega)) only [cond_true, cond_false, level_Name_eq, some_bind', cat_eq, app_eq, e3, signT, if_true, Bool.false_eq_true, if_false]
theorem ref_verdict_step (v : T_api_Verdict) (m : Nat) (s : List UInt8) (p : Int) (h0 : 0 ≤ p) (h1 : p < 6) (hs : s.length ≤ 1000) : tenterref41_Verdict_l1 v (m + 1) s p = tenterref41_Verdict_l1 v m (s ++ ([32] ++ nameT p) ++ signT (hasAt v p)) (p + 1) := by
  have hl := nameT_len p
  have e1 : decide (p ≤ 5) = true := by simp; omega
  have e2 : decide (0 ≤ p ∧ p < 6) = true := by simp [h0, h1]
  have e3 : IntKind.i64.wrap (p + 1) = p + 1 := wrap_small (by omega) (by omega)
  rw [tenterref41_Verdict_l1.eq_2, e1, cond_true, ref33_Name_eq, some_bind', cat_eq (by simp only [List.length_cons, List.length_nil]; omega), some_bind', cat_eq (by simp only [List.length_append, List.length_cons, List.length_nil]; omega), some_bind', guard_t e2, idx_in false h0 (by simp; omega), some_bind']
  show (bif hasAt v p then _ else _) = _
  cases hasAt v p <;> simp (disch := first | assumption | (simp only [List.length_append, List.length_cons, List.length_nil]; omega)) only [cond_true, cond_false, some_bind', cat_eq, e3, signT, if_true, Bool.false_eq_true, if_false]
theorem Verdict_eq (v : T_api_Verdict) : ∃ l, render_Verdict v = some l ∧ tenterref41_Verdict v = some l := by
  obtain ⟨m, hm⟩ := fuel_6
  have n1 := nameT_len 1
  have n2 := nameT_len 2
  have n3 := nameT_len 3
  have n4 := nameT_len 4
  have n5 := nameT_len 5
  have s1 := signT_len (hasAt v 1)
  have s2 := signT_len (hasAt v 2)
  have s3 := signT_len (hasAt v 3)
  have s4 := signT_len (hasAt v 4)
  have s5 := signT_len (hasAt v 5)
  have hl := levT_len v.Level
  refine ⟨levT v.Level ++ [32] ++ (nameT 1 ++ signT (hasAt v 1)) ++ [32] ++ (nameT 2 ++ signT (hasAt v 2)) ++ [32] ++ (nameT 3 ++ signT (hasAt v 3)) ++ [32] ++ (nameT 4 ++ signT (hasAt v 4)) ++ [32] ++ (nameT 5 ++ signT (hasAt v 5)) ++ [10], ?_, ?_⟩
  · unfold render_Verdict lex_Join
    rw [level_Word_eq, some_bind', hm, verdict_step v _ _ 1 (by omega) (by omega) (by simp), verdict_step v _ _ (1 + 1) (by omega) (by omega) (by simp), verdict_step v _ _ (1 + 1 + 1) (by omega) (by omega) (by simp),
      verdict_step v _ _ (1 + 1 + 1 + 1) (by omega) (by omega) (by simp), verdict_step v _ _ (1 + 1 + 1 + 1 + 1) (by omega) (by omega) (by simp), render_Verdict_l1.eq_2]
    show (joinS ([levT v.Level, nameT 1 ++ signT (hasAt v 1), nameT 2 ++ signT (hasAt v 2), nameT 3 ++ signT (hasAt v 3), nameT 4 ++ signT (hasAt v 4), nameT 5 ++ signT (hasAt v 5)]) [32] >>= fun x1 => some x1) >>= _ = _
    rw [joinS_eq (by simp) (by rw [join6]; simp only [List.length_append, List.length_cons, List.length_nil]; omega), join6, some_bind', some_bind', cat_eq (by simp only [List.length_append, List.length_cons, List.length_nil]; omega)]
    rfl
  · unfold tenterref41_Verdict
    rw [ref33_Word_eq, some_bind', hm, ref_verdict_step v _ _ 1 (by omega) (by omega) (by omega), ref_verdict_step v _ _ (1 + 1) (by omega) (by omega) (by simp only [List.length_append, List.length_cons, List.length_nil]; omega),
      ref_verdict_step v _ _ (1 + 1 + 1) (by omega) (by omega) (by simp only [List.length_append, List.length_cons, List.length_nil, Int.reduceAdd]; omega), ref_verdict_step v _ _ (1 + 1 + 1 + 1) (by omega) (by omega) (by simp only [List.length_append, List.length_cons, List.length_nil, Int.reduceAdd]; omega),
      ref_verdict_step v _ _ (1 + 1 + 1 + 1 + 1) (by omega) (by omega) (by simp only [List.length_append, List.length_cons, List.length_nil, Int.reduceAdd]; omega), tenterref41_Verdict_l1.eq_2]
    show cat? (levT v.Level ++ ([32] ++ nameT 1) ++ signT (hasAt v 1) ++ ([32] ++ nameT 2) ++ signT (hasAt v 2) ++ ([32] ++ nameT 3) ++ signT (hasAt v 3) ++ ([32] ++ nameT 4) ++ signT (hasAt v 4) ++ ([32] ++ nameT 5) ++ signT (hasAt v 5)) [10] >>= _ = _
    rw [cat_eq (by simp only [List.length_append, List.length_cons, List.length_nil]; omega), some_bind']
    simp

theorem read_eq {w : T_api_Witness} (h : V_api_Witness w) : ∃ l, render_read w.Read = some l ∧ l.length ≤ 120 ∧ l = intText w.Read.Tx ++ [32] ++ intText w.Read.Place ++ [32] ++ opT (T_api_Op.mk true w.Read.Of.Key w.Read.Of.Tx w.Read.Of.Nth) := by
  obtain ⟨_, _, h1, h2, h3, h4, h5⟩ := h
  have ho : V_api_Op (T_api_Op.mk true w.Read.Of.Key w.Read.Of.Tx w.Read.Of.Nth) := ⟨trivial, h4, h3, h5⟩
  have l1 := intText_len h1
  have l2 := intText_len h2
  have l3 := opT_len ho
  refine ⟨_, ?_, ?_, rfl⟩
  · unfold render_read lex_Join
    rw [numText_eq h1, some_bind', numText_eq h2, some_bind', op_Text_eq ho, some_bind', joinS_eq (by simp) (by rw [join3]; simp only [List.length_append, List.length_cons, List.length_nil]; omega), join3]
    rfl
  · simp only [List.length_append, List.length_cons, List.length_nil]; omega
theorem Witness_eq (p : Int) {w : T_api_Witness} (h : V_api_Witness w) (hw : w.Walk.length ≤ 40) (is : Bool) : ∃ l, render_Witness p w is = some l ∧ tenterref41_Witness p w is = some l := by
  have hn := nameT_len p
  unfold render_Witness tenterref41_Witness
  simp (disch := first | assumption | omega | (simp only [List.length_append, List.length_cons, List.length_nil]; omega)) only [level_Name_eq, ref33_Name_eq, cat_eq, some_bind']
  cases is with
  | false =>
    refine ⟨nameT p ++ [32] ++ [110, 111, 10], ?_, ?_⟩
    · simp (disch := first | assumption | omega | (simp only [List.length_append, List.length_cons, List.length_nil]; omega)) only [cond_false, cat_eq, some_bind']
      simp
    · simp (disch := first | assumption | omega | (simp only [List.length_append, List.length_cons, List.length_nil]; omega)) only [cond_false, cat_eq, some_bind']
  | true =>
    simp only [cond_true, bif_beq]
    obtain ⟨r, r1, r2, r3⟩ := read_eq h
    obtain ⟨_, hl, h1, h2, h3, h4, h5⟩ := id h
    have ho : V_api_Op (T_api_Op.mk true w.Read.Of.Key w.Read.Of.Tx w.Read.Of.Nth) := ⟨trivial, h4, h3, h5⟩
    have l1 := intText_len h1
    have l2 := intText_len h2
    have l3 := opT_len ho
    have A : (render_read w.Read >>= fun x7 => cat? (nameT p ++ [32]) x7 >>= fun x9 => cat? x9 [10] >>= fun x11 => some x11) = some (nameT p ++ [32] ++ r ++ [10]) := by
      simp (disch := first | assumption | omega | (simp only [List.length_append, List.length_cons, List.length_nil]; omega)) only [r1, cat_eq, some_bind']
    have B : (numText w.Read.Tx >>= fun x7 => cat? (nameT p ++ [32]) x7 >>= fun x9 => cat? x9 [32] >>= fun x11 => numText w.Read.Place >>= fun x13 => cat? x11 x13 >>= fun x15 => cat? x15 [32] >>= fun x17 => tenterref09_Text (T_api_Op.mk true w.Read.Of.Key w.Read.Of.Tx w.Read.Of.Nth) >>= fun x19 => cat? x17 x19 >>= fun x21 => cat? x21 [10] >>= fun x23 => some x23) = some (nameT p ++ [32] ++ r ++ [10]) := by
      rw [ref_opText_eq ho]
      simp (disch := first | assumption | omega | (simp only [List.length_append, List.length_cons, List.length_nil]; omega)) only [numText_eq, cat_eq, some_bind']
      rw [r3]; simp
    by_cases c2 : p = 2
    · exact ⟨_, by rw [if_pos c2]; exact A, by rw [if_pos c2]; exact B⟩
    · by_cases c3 : p = 3
      · exact ⟨_, by rw [if_neg c2, if_pos c3]; exact A, by rw [if_neg c2, if_pos c3]; exact B⟩
      · have hT := walkT_len hl.2
        refine ⟨nameT p ++ [32] ++ walkT w.Walk ++ [10], ?_, ?_⟩ <;> rw [if_neg c2, if_neg c3]
        · rw [walk_Text_eq hl hw]
          simp (disch := first | assumption | omega | (simp only [List.length_append, List.length_cons, List.length_nil]; omega)) only [cat_eq, some_bind']
        · rw [ref_walkText_eq hl hw]
          simp (disch := first | assumption | omega | (simp only [List.length_append, List.length_cons, List.length_nil]; omega)) only [cat_eq, some_bind']
theorem size_step (h : T_api_History) (u r x : Int) (m : Nat) (w : List (List UInt8)) (p : Int) (h0 : 0 ≤ p) (h1 : p < 5) (hw : w.length ≤ 10) (hv : VI (([(h.Txs.length : Int), (h.Orders.length : Int), x, u, r] : List Int).getD p.toNat 0)) :
    render_Size_l1 h u r x (m + 1) w p = render_Size_l1 h u r x m (w ++ [([[116, 120, 115], [111, 114, 100, 101, 114, 115], [119, 101, 105, 103, 104, 116], [117, 110, 100, 111], [114, 101, 100, 111]] : List (List UInt8)).getD p.toNat [], intText (([(h.Txs.length : Int), (h.Orders.length : Int), x, u, r] : List Int).getD p.toNat 0)]) (p + 1) := by
  have e1 : decide (p < 5) = true := by simp [h1]
  have e2 : decide (0 ≤ p ∧ p < 5) = true := by simp [h0, h1]
  have e3 : IntKind.i64.wrap (p + 1) = p + 1 := wrap_small (by omega) (by omega)
  rw [render_Size_l1.eq_2, e1, cond_true, idx_in 0 h0 (by simp; omega), some_bind', guard_t e2, idx_in [] h0 (by simp; omega), some_bind', numText_eq hv, some_bind', app_eq (by simp only [List.length_append, List.length_cons, List.length_nil]; omega), some_bind', e3]
theorem Size_eq {h : T_api_History} (hv : V_api_History h) (h1 : h.Txs.length ≤ 12) (h2 : ∀ t ∈ h.Txs, t.Ops.length ≤ 24) (h3 : h.Orders.length ≤ 24) {u r : Int} (hu : VI u) (hr : VI r) : ∃ l, render_Size h u r = some l ∧ tenterref41_Size h u r = some l := by
  obtain ⟨m, hm⟩ := fuel_6
  have hw : weightN h.Txs ≤ 300 := by have := weightN_le h2; omega
  have v1 : VI (h.Txs.length : Int) := ⟨by omega, by omega⟩
  have v2 : VI (h.Orders.length : Int) := ⟨by omega, by omega⟩
  have v3 : VI (weightN h.Txs : Int) := ⟨by omega, by omega⟩
  have l1 := intText_len v1
  have l2 := intText_len v2
  have l3 := intText_len v3
  have l4 := intText_len hu
  have l5 := intText_len hr
  refine ⟨[116, 120, 115] ++ [32] ++ intText h.Txs.length ++ [32] ++ [111, 114, 100, 101, 114, 115] ++ [32] ++ intText h.Orders.length ++ [32] ++ [119, 101, 105, 103, 104, 116] ++ [32] ++ intText (weightN h.Txs) ++ [32] ++ [117, 110, 100, 111] ++ [32] ++ intText u ++ [32] ++ [114, 101, 100, 111] ++ [32] ++ intText r ++ [10], ?_, ?_⟩
  · unfold render_Size lex_Join
    rw [Weight_eq h1 h2, some_bind', hm, size_step h u r (weightN h.Txs : Int) _ _ 0 (by omega) (by omega) (by simp) (show VI (([(h.Txs.length : Int), (h.Orders.length : Int), (weightN h.Txs : Int), u, r] : List Int).getD (0 : Int).toNat 0) from v1),
      size_step h u r (weightN h.Txs : Int) _ _ (0 + 1) (by omega) (by omega) (by simp) (show VI (([(h.Txs.length : Int), (h.Orders.length : Int), (weightN h.Txs : Int), u, r] : List Int).getD (0 + 1 : Int).toNat 0) from v2),
      size_step h u r (weightN h.Txs : Int) _ _ (0 + 1 + 1) (by omega) (by omega) (by simp) (show VI (([(h.Txs.length : Int), (h.Orders.length : Int), (weightN h.Txs : Int), u, r] : List Int).getD (0 + 1 + 1 : Int).toNat 0) from v3),
      size_step h u r (weightN h.Txs : Int) _ _ (0 + 1 + 1 + 1) (by omega) (by omega) (by simp) (show VI (([(h.Txs.length : Int), (h.Orders.length : Int), (weightN h.Txs : Int), u, r] : List Int).getD (0 + 1 + 1 + 1 : Int).toNat 0) from hu),
      size_step h u r (weightN h.Txs : Int) _ _ (0 + 1 + 1 + 1 + 1) (by omega) (by omega) (by simp) (show VI (([(h.Txs.length : Int), (h.Orders.length : Int), (weightN h.Txs : Int), u, r] : List Int).getD (0 + 1 + 1 + 1 + 1 : Int).toNat 0) from hr), render_Size_l1.eq_2]
    show (joinS [[116, 120, 115], intText h.Txs.length, [111, 114, 100, 101, 114, 115], intText h.Orders.length, [119, 101, 105, 103, 104, 116], intText (weightN h.Txs), [117, 110, 100, 111], intText u, [114, 101, 100, 111], intText r] [32] >>= fun x1 => some x1) >>= _ = _
    rw [joinS_eq (by simp) (by rw [join10]; simp only [List.length_append, List.length_cons, List.length_nil]; omega), join10, some_bind', some_bind', cat_eq (by simp only [List.length_append, List.length_cons, List.length_nil]; omega)]
    rfl
  · unfold tenterref41_Size
    simp (disch := first | assumption | omega | (simp only [List.length_append, List.length_cons, List.length_nil]; omega)) only [numText_eq, ref_Weight_eq h1 h2, cat_eq, some_bind']
    simp
def linesT (l : List (List UInt8)) : List UInt8 := l.flatMap fun s => s ++ [10]
theorem linesT_len {l : List (List UInt8)} (h : ∀ s ∈ l, s.length ≤ 200) : (linesT l).length ≤ l.length * 201 :=
  flatMap_len _ 201 l (fun s hs => by have := h s hs; simp only [List.length_append, List.length_cons, List.length_nil]; omega)
theorem linesT_succ {l : List (List UInt8)} {i : Nat} (hi : i < l.length) : linesT (l.take (i + 1)) = linesT (l.take i) ++ (l[i] ++ [10]) := by
  rw [take_succ' hi]
  simp only [linesT, List.flatMap_append, List.flatMap_cons, List.flatMap_nil, List.append_nil]
theorem Lines_eq {l : List (List UInt8)} (hl : l.length ≤ 60) (h : ∀ s ∈ l, s.length ≤ 200) : ∃ r, render_Lines l = some r ∧ tenterref41_Lines l = some r := by
  have hT : ∀ i, (linesT (l.take i)).length ≤ 60 * 201 := fun i => by
    have := linesT_len (l := l.take i) (fun e he => h e (List.mem_of_mem_take he))
    have : (l.take i).length ≤ 60 := by simp; omega
    omega
  have hA := linesT_len h
  have k1 : render_Lines_l1 l fuel 0 [] = some (linesT l) := by
    refine loop_run (F := fun fk i => render_Lines_l1 l fk (i : Int) (linesT (l.take i))) (n := l.length) (fun fk i hi => ?_) (fun fk => ?_) (by omega)
    · have h5 := hT i
      have h6 := h _ (List.getElem_mem hi)
      have e1 : decide ((i : Int) < (l.length : Int)) = true := by simp; omega
      show render_Lines_l1 l (fk + 1) (i : Int) (linesT (l.take i)) = render_Lines_l1 l fk ((i + 1 : Nat) : Int) (linesT (l.take (i + 1)))
      rw [render_Lines_l1.eq_2, e1, cond_true, idx_nat hi, some_bind', wrap_succ (by omega), linesT_succ hi, cat_eq (by simp only [List.length_cons, List.length_nil]; omega), some_bind', app_eq (by simp only [List.length_append, List.length_cons, List.length_nil]; omega), some_bind']
    · have e1 : decide ((l.length : Int) < (l.length : Int)) = false := by simp
      show render_Lines_l1 l (fk + 1) (l.length : Int) (linesT (l.take l.length)) = _
      rw [render_Lines_l1.eq_2, e1, cond_false, List.take_length]
  have k2 : tenterref41_Lines_l1 l fuel [] 0 = some (linesT l) := by
    refine loop_run (F := fun fk i => tenterref41_Lines_l1 l fk (linesT (l.take i)) (i : Int)) (n := l.length) (fun fk i hi => ?_) (fun fk => ?_) (by omega)
    · have h5 := hT i
      have h6 := h _ (List.getElem_mem hi)
      have e1 : decide ((i : Int) < (l.length : Int)) = true := by simp; omega
      show tenterref41_Lines_l1 l (fk + 1) (linesT (l.take i)) (i : Int) = tenterref41_Lines_l1 l fk (linesT (l.take (i + 1))) ((i + 1 : Nat) : Int)
      rw [tenterref41_Lines_l1.eq_2, e1, cond_true, idx_nat hi, some_bind', wrap_succ (by omega), linesT_succ hi, cat_eq (by simp only [List.length_cons, List.length_nil]; omega), some_bind', cat_eq (by simp only [List.length_append, List.length_cons, List.length_nil]; omega), some_bind']
    · have e1 : decide ((l.length : Int) < (l.length : Int)) = false := by simp
      show tenterref41_Lines_l1 l (fk + 1) (linesT (l.take l.length)) (l.length : Int) = _
      rw [tenterref41_Lines_l1.eq_2, e1, cond_false, List.take_length]
  refine ⟨linesT l ++ [111, 107, 10], ?_, ?_⟩
  · unfold render_Lines
    have hd : render_Done 0 = some [111, 107, 10] := by rfl
    rw [k1, some_bind', str_eq (by omega), some_bind', hd, some_bind', cat_eq (by simp only [List.length_cons, List.length_nil]; omega)]; rfl
  · unfold tenterref41_Lines
    rw [k2, some_bind', cat_eq (by simp only [List.length_cons, List.length_nil]; omega)]; rfl
theorem law_l1 {e : Int} {v : T_api_Verdict} {p : Int} {w : T_api_Witness} {is : Bool} {t : T_api_Tx} {h : T_api_History} {u : Int} {l : List (List UInt8)} (hl : l.length ≤ 60) :
    tenterlaw41_RenderTells_l1 e v p w is t h u l fuel 0 = some (if (l.any fun s => decide (200 < s.length)) = true then .inr true else .inl ()) := by
  refine loop_any (F := fun fk i => tenterlaw41_RenderTells_l1 e v p w is t h u l fk (i : Int)) (l := l) (fun fk i hi => ?_) (fun fk => ?_) (by omega)
  · have e1 : decide ((i : Int) < (l.length : Int)) = true := by simp; omega
    show tenterlaw41_RenderTells_l1 e v p w is t h u l (fk + 1) (i : Int) = _
    rw [tenterlaw41_RenderTells_l1.eq_2, e1, cond_true, idx_nat hi, some_bind', wrap_succ (by omega), bif_dec]
    by_cases c : 200 < l[i].length
    · rw [if_pos (by omega), if_pos (by simpa using c)]; rfl
    · rw [if_neg (by omega), if_neg (by simpa using c)]
  · have e1 : decide ((l.length : Int) < (l.length : Int)) = false := by simp
    show tenterlaw41_RenderTells_l1 e v p w is t h u l (fk + 1) (l.length : Int) = _
    rw [tenterlaw41_RenderTells_l1.eq_2, e1, cond_false]
theorem renderTells_true {e : Int} {v : T_api_Verdict} {p : Int} {w : T_api_Witness} {is : Bool} {t : T_api_Tx} {h : T_api_History} {u : Int} {l : List (List UInt8)} (he : VI e) (hv : V_api_Verdict v) (hp : VI p) (hw : V_api_Witness w) (his : VT is) (ht : V_api_Tx t) (hh : V_api_History h) (hu : VI u) (hl : VL VS l) :
    tenterlaw41_RenderTells e v p w is t h u l = some true := by
  have yes : lives41 = some true := rfl
  unfold tenterlaw41_RenderTells
  obtain ⟨b, hb⟩ : ∃ b, tenterref12_Light h = some b := ⟨_, Light_eq hh⟩
  rw [hb, some_bind']
  cases b with
  | false => rfl
  | true =>
    obtain ⟨g1, g2, g3, g4⟩ := Light_yes hh hb
    simp only [cond_true, bif_dec]
    by_cases c1 : (w.Walk.length : Int) > 40
    · rw [if_pos c1]; rfl
    rw [if_neg c1]
    by_cases c2 : (t.Ops.length : Int) > 60
    · rw [if_pos c2]; rfl
    rw [if_neg c2]
    by_cases c3 : (l.length : Int) > 60
    · rw [if_pos c3]; rfl
    rw [if_neg c3, law_l1 (by omega)]
    by_cases c4 : (l.any fun s => decide (200 < s.length)) = true
    · rw [if_pos c4]; rfl
    rw [if_neg c4]
    have hs : ∀ s ∈ l, s.length ≤ 200 := fun s hs => by
      simp only [List.any_eq_true, not_exists, not_and, decide_eq_true_eq] at c4
      have := c4 s hs; omega
    obtain ⟨w1, q1, _, _⟩ := ref41_Word_some e
    obtain ⟨w2, q2, q3⟩ := Done_eq e
    obtain ⟨w3, q4, q5⟩ := Verdict_eq v
    obtain ⟨w4, q6, q7⟩ := Witness_eq p hw (by omega) is
    obtain ⟨w5, q8, q9⟩ := Size_eq hh g1 g3 g2 hu hp
    obtain ⟨w6, q10, q11⟩ := Lines_eq (l := l) (by omega) hs
    have q12 := txn_Text_eq ht (by omega)
    have q13 := ref10_Text_eq ht (by omega)
    have q14 := txT_len ht (by omega)
    have q15 : render_Tx t = some (txT t ++ [10]) := by
      unfold render_Tx
      rw [q12, some_bind', cat_eq (by simp only [List.length_cons, List.length_nil]; omega)]; rfl
    have q16 : cat? (txT t) [10] = some (txT t ++ [10]) := cat_eq (by simp only [List.length_cons, List.length_nil]; omega)
    simp only [sum2?, render_Word_eq, q1, q2, q3, q4, q5, q6, q7, q8, q9, q10, q11, q13, q15, q16, some_bind', beq_self_eq_true, cond_true, yes]
end Tp
end Pm
end Go.Proofs.Ytacccimihgailaa
