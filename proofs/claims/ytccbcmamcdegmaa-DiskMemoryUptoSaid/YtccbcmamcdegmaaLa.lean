/- A disk's calls: what the program's functions come to, and the document's. Conditions: sizes below a bound. -/
import Derived.Test.YtccbcmamcdegmaaFa
import Derived.Test.YtccbcmamcdegmaaHayDl
set_option linter.unusedVariables false
set_option linter.unusedSimpArgs false
namespace Go.Hay.Ytccbcmamcdegmaa
open Go Go.Hay Go.Proofs

section
variable {N : Nat}

theorem new_ok (n : Int) : disk_New.run N n = some ((dNew n).t, ()) := rfl
theorem nat_lt_33 (c : UInt8) : decide ((c.toNat : Int) < (33 : Int)) = !decide (33 ≤ c.toNat) := by
  by_cases h : 33 ≤ c.toNat
  · rw [decide_eq_true h, decide_eq_false (by omega)]; rfl
  · rw [decide_eq_false h, decide_eq_true (by omega)]; rfl
theorem nat_gt_126 (c : UInt8) : decide ((c.toNat : Int) > (126 : Int)) = !decide (c.toNat ≤ 126) := by
  by_cases h : c.toNat ≤ 126
  · rw [decide_eq_true h, decide_eq_false (by omega)]; rfl
  · rw [decide_eq_false h, decide_eq_true (by omega)]; rfl
abbrev okC (c : UInt8) : Bool := decide (33 ≤ c.toNat) && decide (c.toNat ≤ 126)
theorem all_get (s : List UInt8) : (∀ j < s.length, (!okC (s.getD j 0)) = false) ↔ s.all okC = true := by
  rw [List.all_eq_true]
  constructor
  · intro h x hx
    obtain ⟨j, hj, rfl⟩ := List.mem_iff_getElem.1 hx
    have := h j hj
    rw [getD_get hj] at this
    simpa using this
  · intro h j hj
    rw [getD_get hj, h _ (List.getElem_mem hj)]
    rfl
theorem char_step {s : List UInt8} {i : Nat} (hi : i < s.length) {β : Type} {x : Option ((Bool × Unit) ⊕ β)} :
    (bif decide (((s.getD (i : Int).toNat (0 : UInt8)).toNat : Int) < (33 : Int)) then some (.inl (false, ())) else bif inB (i : Int) s.length then (bif decide (((s.getD (i : Int).toNat (0 : UInt8)).toNat : Int) > (126 : Int)) then some (.inl (false, ())) else x) else none) =
      if (!okC (s.getD i 0)) = true then some (.inl (false, ())) else x := by
  rw [Int.toNat_natCast, nat_lt_33, nat_gt_126, inB_nat hi]
  change _ = if (!(decide (33 ≤ (s.getD i 0).toNat) && decide ((s.getD i 0).toNat ≤ 126))) = true then _ else _
  cases decide (33 ≤ (s.getD i 0).toNat) <;> cases decide ((s.getD i 0).toNat ≤ 126) <;> rfl
theorem named_ok (s : List UInt8) (hs : s.length < N) (h2 : s.length ≤ 4611686018427387904) : disk_named.run N s = some (nameOk s, ()) := by
  have hk := loop_find (go := fun fuel i => disk_named_0.go N fuel s (s.length : Int) i) (n := s.length) (p := fun i => !okC (s.getD i 0)) (v := fun _ => (false, ())) (e := ()) h2 (fun fuel => go_n (by omega) rfl)
    (fun i hi fuel _ => go_d (by omega) (go_t (inB_nat hi) (char_step hi))) hs
  unfold disk_named.run nameOk
  rcases hk with ⟨j, hj, hp, _, h⟩ | ⟨hp, h⟩
  · rw [h]
    have : s.all okC = false := by
      cases ha : s.all okC with
      | false => rfl
      | true => have := (all_get s).2 ha j hj; rw [hp] at this; cases this
    rw [show (s.all fun c => decide (33 ≤ c.toNat) && decide (c.toNat ≤ 126)) = false from this]
    rfl
  · rw [h, show (s.all fun c => decide (33 ≤ c.toNat) && decide (c.toNat ≤ 126)) = true from (all_get s).1 hp]
    cases s with
    | nil => rfl
    | cons c s =>
      show (bif !(decide (c :: s = [])) then some (decide (((c :: s).length : Int) ≤ (32 : Int)), ()) else some (false, ())) = _
      rw [decide_eq_false (by simp), decide_eq_true (show 1 ≤ (c :: s).length by simp)]
      simp only [Bool.not_false, cond_true, Bool.true_and]
      congr 2
      exact decide_eq_decide.2 (by omega)
theorem clone_ok (s : List UInt8) (h : s.length ≤ 140737488355328) : slices_Clone_byte_byte.run N s = some (s, ()) := by
  unfold slices_Clone_byte_byte.run
  refine go_p (go_t (room_t (by omega) (by omega)) rfl) fun h0 => ?_
  have := Nat.eq_of_beq_eq_true h0
  rw [List.eq_nil_of_length_eq_zero this]
theorem grow_ok (n : Nat) (h : n ≤ 140737488355328) : slices_Grow_byte_byte.run N (n : Int) = some ([], ()) := by
  unfold slices_Grow_byte_byte.run
  rw [show IntKind.i64.wrap ((n : Int) - 0) = (n : Int) by rw [Int.sub_zero]; exact wrap_nat n (by omega)]
  refine go_n (by omega) ?_
  by_cases h0 : n = 0
  · exact go_n (by omega) rfl
  · refine go_d (by omega) (go_t ?_ (go_t (okB_t (by omega) (by omega) (by omega)) (by simp)))
    rw [decide_eq_true (show (0 : Int) ≤ n by omega), Int.toNat_natCast, room_t (by omega) (by omega)]
    rfl
theorem lay_ok (d : DD) (name : DNm) (f : DFl) : disk_Disk_lay.run N d.room d.used d.files d.steps d.left d.dead name f = some ((dLay d name f).t, ()) := rfl
theorem step_ok (d : DD) : disk_Disk_step.run N d.room d.used d.files d.steps d.left d.dead = some ((dStep d).1.t, (dStep d).2, ()) := by
  unfold disk_Disk_step.run dStep
  cases decide (d.left = -1) <;> cases decide (d.left = 0) <;> rfl
theorem free_ok (d : DD) : disk_Disk_Free.run N d.room d.used d.files d.steps d.left d.dead = some (wr (d.room - d.used), ()) := rfl
theorem steps_ok (d : DD) : disk_Disk_Steps.run N d.room d.used d.files d.steps d.left d.dead = some (d.steps, ()) := rfl
theorem concat_ok (a b : List UInt8) (h : a.length + b.length ≤ 140737488355328) : slices_Concat_byte_byte.run N a b = some (a ++ b, ()) := by
  have e1 : IntKind.i64.wrap ((0 : Int) + (a.length : Int)) = (a.length : Int) := by rw [Int.zero_add]; exact wrap_nat _ (by omega)
  have e2 : IntKind.i64.wrap ((a.length : Int) + (b.length : Int)) = ((a.length + b.length : Nat) : Int) := by rw [wrap_i64] <;> omega
  unfold slices_Concat_byte_byte.run
  rw [e1, e2]
  exact go_n (by omega) (go_n (by omega) (go_o (grow_ok (a.length + b.length) h) (go_t (room_t (by simp; omega) (by simp; omega)) (go_t (room_t (by simp; omega) (by simp; omega)) rfl))))
theorem append_ok (hN : 8796093022208 ≤ N) (d : DD) (name : DNm) (b : List UInt8) (hn : name.length ≤ 2199023255552) (hl : (dGet d name).1.length + b.length ≤ 140737488355328) :
    disk_Disk_Append.run N d.room d.used d.files d.steps d.left d.dead name b = some ((dAppend d name b).1.t, (dAppend d name b).2, ()) := by
  unfold disk_Disk_Append.run dAppend
  cases hd : d.dead with
  | true => obtain ⟨a1, a2, a3, a4, a5, a6⟩ := d; cases hd; rfl
  | false =>
    refine go_f rfl (go_o (named_ok name (by omega) (by omega)) ?_)
    cases hk : nameOk name with
    | false => obtain ⟨a1, a2, a3, a4, a5, a6⟩ := d; cases hd; rfl
    | true =>
      refine go_f rfl (go_o rfl ?_)
      simp only [Bool.not_true, cond_false]
      by_cases hfull : (b.length : Int) > wr (d.room - d.used)
      · rw [decide_eq_true hfull]
        simp only [cond_true]
        obtain ⟨a1, a2, a3, a4, a5, a6⟩ := d; cases hd; rfl
      · rw [decide_eq_false hfull]
        simp only [cond_false]
        refine go_o (concat_ok _ _ hl) ?_
        have e : (⟨d.room, d.used, d.files, d.steps, d.left, false⟩ : DD) = d := by obtain ⟨a1, a2, a3, a4, a5, a6⟩ := d; cases hd; rfl
        refine go_o (lay_ok ⟨d.room, d.used, d.files, d.steps, d.left, false⟩ name _) ?_
        rw [e]
        refine go_o (step_ok (dLay d name ((dGet d name).1 ++ b, (dGet d name).2))) ?_
        cases (dStep (dLay d name ((dGet d name).1 ++ b, (dGet d name).2))).2 <;> rfl
theorem read_ok (d : DD) (name : DNm) (hl : (dGet d name).1.length ≤ 140737488355328) : disk_Disk_Read.run N d.room d.used d.files d.steps d.left d.dead name = some ((dGet d name).1, mapHas d.files name, ()) := by
  unfold disk_Disk_Read.run
  exact go_o (clone_ok _ hl) rfl

theorem dd_eta (d : DD) {b : Bool} (h : d.dead = b) : (⟨d.room, d.used, d.files, d.steps, d.left, b⟩ : DD) = d := by obtain ⟨a1, a2, a3, a4, a5, a6⟩ := d; cases h; rfl

theorem sync_ok (d : DD) (name : DNm) : disk_Disk_Sync.run N d.room d.used d.files d.steps d.left d.dead name = some ((dSync d name).1.t, (dSync d name).2, ()) := by
  have key : disk_Disk_do.run N d.room d.used d.files d.steps d.left d.dead name name = some ((dSync d name).1.t, (dSync d name).2, ()) := by
    unfold disk_Disk_do.run dSync dDo
    cases hd : d.dead with
    | true => obtain ⟨a1, a2, a3, a4, a5, a6⟩ := d; cases hd; rfl
    | false =>
      cases hh : mapHas d.files name with
      | false => obtain ⟨a1, a2, a3, a4, a5, a6⟩ := d; cases hd; rfl
      | true =>
        refine go_f rfl (go_f rfl (go_o rfl (go_f rfl (go_o (step_ok ⟨d.room, d.used, d.files, d.steps, d.left, false⟩) ?_))))
        rw [dd_eta d hd]
        simp only [Bool.not_true, cond_false, decide_true]
        cases hs : (dStep d).2 <;> rfl
  unfold disk_Disk_Sync.run
  exact go_o key rfl
end
end Go.Hay.Ytccbcmamcdegmaa
