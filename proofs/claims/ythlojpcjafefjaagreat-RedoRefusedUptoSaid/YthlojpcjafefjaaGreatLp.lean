/- Calls of a log: the program's and the document's, on disks that are alike. Conditions: sizes below a bound. -/
import Derived.Test.YthlojpcjafefjaaGreatLn
import Derived.Test.YthlojpcjafefjaaGreatLmr
set_option linter.unusedVariables false
set_option linter.unusedSimpArgs false
namespace Go.Hay.YthlojpcjafefjaaGreat
open Go Go.Hay Go.Proofs

section
variable {N : Nat}

/-! ### Records of bounded length -/
def Bd (l : List (List UInt8)) : Prop := ∀ t ∈ l, t.length ≤ 16777216
theorem Bd.app {a b : List (List UInt8)} (h : Bd a) (h2 : Bd b) : Bd (a ++ b) := fun t ht => (List.mem_append.1 ht).elim (h t) (h2 t)
theorem Bd.nil : Bd [] := fun t ht => by cases ht
theorem fC79 (l : List (List UInt8)) (hl : l.length ≤ 1000000000) (hb : Bd l) : ∀ (suf pre : List (List UInt8)) (fuel : Nat), l = pre ++ suf → suf.length < fuel →
    fC13.go N fuel 0 pre l (l.length : Int) (pre.length : Int) = some ((l, ()), (0, (), (), (), (), ()), ())
  | _, _, 0, _, h => absurd h (Nat.not_lt_zero _)
  | [], pre, fuel + 1, hp, hf => go_n (by rw [hp]; simp) (by rw [hp]; simp)
  | t :: suf, pre, fuel + 1, hp, hf => by
    have hlt : pre.length < l.length := by rw [hp]; simp
    have hgd : l.getD ((pre.length : Int)).toNat ([] : List UInt8) = t := by rw [hp]; exact fC29 _ _ _ _
    have htl := hb t (by rw [hp]; simp)
    simp only [List.length_cons] at hf
    refine go_d (by omega) (go_t (inB_nat hlt) (go_d hlt ?_))
    rw [hgd]
    refine go_o (Dk.fD43 t (by omega)) (go_d rfl (go_o (v := ((pre ++ [t], ()), ())) (go_t (room_t (by omega) (by omega)) rfl) ?_))
    rw [wrap_succ pre.length (by omega)]
    have ih := fC79 l hl hb suf (pre ++ [t]) fuel (by rw [hp]; simp) (by omega)
    rw [show ((pre ++ [t]).length : Int) = ((pre.length + 1 : Nat) : Int) by simp] at ih
    exact ih
theorem gone1 (d : DD) (name : DNm) (l : List (List UInt8)) (size : Int) (hl : l.length ≤ 1000000000) (hb : Bd l) (hN : l.length < N) :
    law_gone.run N d.room d.used d.files d.steps d.left d.dead name l size = some (d.t, ((), name, l, size, ()), l, ()) := by
  have h := fC79 (N := N) l hl hb l [] N rfl hN
  exact go_o (v := (d.t, ((), name, l, size, ()), (((), ()), ()), ())) rfl (go_o (v := ((l, ()), (0, (), (), (), (), ()), ())) (go_o h rfl) (go_d rfl rfl))
theorem fC67 (a : List (List UInt8)) (ha : a.length ≤ 1000000000000) : ∀ (d i fuel : Nat), a.length = i + d → d < fuel → fA30.go N fuel a a (i : Int) = some (.inr ())
  | _, _, 0, _, h => absurd h (Nat.not_lt_zero _)
  | 0, i, fuel + 1, e, _ => go_n (by omega) rfl
  | d + 1, i, fuel + 1, e, h => by
    have hi : i < a.length := by omega
    refine go_d (by omega) (go_t (inB_nat hi) (go_d hi (go_t (inB_nat hi) (go_nd rfl ?_))))
    rw [wrap_succ i (by omega)]
    exact fC67 a ha d (i + 1) fuel (by omega) (by omega)
theorem fD91 (a : List (List UInt8)) (ha : a.length ≤ 1000000000000) (hN : a.length < N) : fC24.run N a a = some (true, ()) :=
  go_nd rfl (go_o (fC67 a ha a.length 0 N (by omega) hN) rfl)
theorem fD98 (b : List UInt8) (e : Int) : (textR b e 16777216).2.length ≤ 16777216 := by
  unfold textR
  split
  · simp
  · split
    · simp
    · rename_i n m hx
      split
      · simp
      · have := (fD54 hx).2
        rw [List.length_take]
        omega
theorem lst_bd : ∀ (n : Nat) (b : List UInt8), Bd (lst n b).1
  | 0, b => Bd.nil
  | n + 1, b => by
    rw [lst]
    split
    · intro t ht
      rcases List.mem_cons.1 ht with rfl | ht
      · exact fD98 b 0
      · exact lst_bd n _ t ht
    · exact Bd.nil
theorem fD99 (b : List UInt8) (most : Int) : Bd (full b most).1 := by
  unfold full
  split
  · exact lst_bd _ _
  · exact Bd.nil
theorem fD79 : ∀ (n : Nat) (b : List UInt8) (l : List (List UInt8)) (jO_ : Nat), Bd l → Bd (readA n b l jO_).1
  | 0, b, l, jO_, h => h
  | n + 1, b, l, jO_, h => by
    rw [readA]
    split
    · split
      · exact h
      · split
        · exact fD79 n b _ _ (h.app (fD99 _ _))
        · exact Bd.nil
    · exact h
theorem fA94 (b : List UInt8) : Bd (readP b).1 := fD79 _ b [] 0 Bd.nil
theorem fD90 (b : List UInt8) : (readP b).1.length ≤ b.length := by
  have := fB72 (b.length + 1) b [] 0 (Nat.zero_le _)
  unfold readP
  simpa using this
theorem fB80 {l : List (List UInt8)} (h : Small l) : Bd l := fun t ht => by
  have h1 := tl_mem ht
  have h2 := (Small.tl h).1
  omega

/-! ### Calls, one behind the other -/
def thn {α : Type} (x : α × Int) (f : α → α × Int) : α × Int := bif !(decide (x.2 = 0)) then x else f x.1
def fD37 (d : DD) : DD × Int := thn (thn (bif mapHas d.files nm then dRemove d nm else (d, 0)) fun d => dAppend d nm []) fun d => dSync d nm
def fD34 (r : RS) : RS × Int := thn (thn (bif mapHas r.files nm then rRemove r nm else (r, 0)) fun r => rAppend r nm []) fun r => rSync r nm
def dOpen (d : DD) : DD × Int :=
  bif d.dead then (d, 44) else bif !mapHas d.files nm then (d, 42) else
    bif !(decide ((readP (dGet d nm).1).2.2 = 0)) then (d, (readP (dGet d nm).1).2.2) else
      thn (bif decide ((readP (dGet d nm).1).2.1 < ((dGet d nm).1.length : Int)) then dTrunc d nm (readP (dGet d nm).1).2.1 else (d, 0)) fun d => dSync d nm
def rOpen (r : RS) : RS × Int :=
  bif r.dead then (r, 44) else bif !mapHas r.files nm then (r, 42) else
    bif !(decide ((readP (rGet r nm).1).2.2 = 0)) then (r, (readP (rGet r nm).1).2.2) else
      thn (bif decide ((readP (rGet r nm).1).2.1 < ((rGet r nm).1.length : Int)) then rTrunc r nm (readP (rGet r nm).1).2.1 else (r, 0)) fun r => rSync r nm
def dApp (d : DD) (rs : List (List UInt8)) : DD × Int := bif decide ((rs.length : Int) = 0) then (d, 0) else thn (dAppend d nm (frame (recB rs))) fun d => dSync d nm
def rApp (r : RS) (rs : List (List UInt8)) : RS × Int := bif decide ((rs.length : Int) = 0) then (r, 0) else thn (rAppend r nm (frame (recB rs))) fun r => rSync r nm

/-- Both disks after a call, and what it told. -/
def Both (k : Nat) (x : DD × Int) (y : RS × Int) : Prop := x.2 = y.2 ∧ Inv k x.1 y.1
theorem Both.thn {k k' : Nat} {x : DD × Int} {y : RS × Int} (h : Both k x y) {f : DD → DD × Int} {g : RS → RS × Int} (hk : k ≤ k') (hs : k' ≤ 2199023255552) (hf : ∀ d r, Inv k d r → Both k' (f d) (g r)) : Both k' (thn x f) (thn y g) := by
  unfold YthlojpcjafefjaaGreat.thn
  rw [h.1]
  cases decide (y.2 = 0) with
  | true => exact hf _ _ h.2
  | false => exact ⟨h.1, h.2.mono hk hs⟩
theorem fD49 {k : Nat} {d : DD} {r : RS} (h : Inv k d r) (hk : k + 6 ≤ 2199023255552) : Both (k + 6) (fD37 d) (fD34 r) := by
  unfold fD37 fD34
  have h0 : Both (k + 2) (bif mapHas d.files nm then dRemove d nm else (d, 0)) (bif mapHas r.files nm then rRemove r nm else (r, 0)) := by
    rw [h.has]
    cases mapHas r.files nm with
    | true => exact h.remove (by omega) nm
    | false => exact ⟨rfl, h.mono (by omega) (by omega)⟩
  refine Both.thn (k := k + 4) (Both.thn h0 (by omega) (by omega) fun d r h => ?_) (by omega) (by omega) fun d r h => h.sync (by omega) nm
  exact h.append (name := nm) (b := []) (by simp; omega)
theorem fD50 {k : Nat} {d : DD} {r : RS} (h : Inv k d r) (hk : k + 4 ≤ 2199023255552) : Both (k + 4) (dOpen d) (rOpen r) := by
  unfold dOpen rOpen
  rw [h.dead, h.has, h.get]
  cases r.dead with
  | true => exact ⟨rfl, h.mono (by omega) (by omega)⟩
  | false =>
    cases mapHas r.files nm with
    | false => exact ⟨rfl, h.mono (by omega) (by omega)⟩
    | true =>
      cases decide ((readP (rGet r nm).1).2.2 = 0) with
      | false => exact ⟨rfl, h.mono (by omega) (by omega)⟩
      | true =>
        refine Both.thn (k := k + 2) ?_ (by omega) (by omega) fun d r h => h.sync (by omega) nm
        cases decide ((readP (rGet r nm).1).2.1 < ((rGet r nm).1.length : Int)) with
        | true => exact h.trunc (by omega) nm _
        | false => exact ⟨rfl, h.mono (by omega) (by omega)⟩
theorem fD95 {k : Nat} {d : DD} {r : RS} (h : Inv k d r) (rs : List (List UInt8)) (hk : k + 4 + (frame (recB rs)).length ≤ 2199023255552) : Both (k + 4 + (frame (recB rs)).length) (dApp d rs) (rApp r rs) := by
  unfold dApp rApp
  cases decide ((rs.length : Int) = 0) with
  | true => exact ⟨rfl, h.mono (by omega) (by omega)⟩
  | false =>
    show Both _ (thn (dAppend d nm (frame (recB rs))) fun d => dSync d nm) (thn (rAppend r nm (frame (recB rs))) fun r => rSync r nm)
    refine Both.thn (k := k + 2 + (frame (recB rs)).length) (k' := k + 4 + (frame (recB rs)).length) (h.append (by omega)) (by omega) (by omega) fun d r h => ?_
    have := h.sync (by omega) nm
    exact ⟨this.1, this.2.mono (by omega) (by omega)⟩

theorem thn_ok {α : Type} {x : α × Int} {f : α → α × Int} (h : x.2 = 0) : thn x f = f x.1 := by unfold thn; rw [decide_eq_true h]; rfl
theorem thn_no {α : Type} {x : α × Int} {f : α → α × Int} (h : ¬ x.2 = 0) : thn x f = x := by unfold thn; rw [decide_eq_false h]; rfl

/-! ### The program's calls -/
theorem fB56 (hN : 8796093022208 ≤ N) {k : Nat} {d : DD} {r : RS} (h : Inv k d r) (hk : k + 6 ≤ 2199023255552) :
    ((fD37 d).2 = 0 → fC10.run N d.room d.used d.files d.steps d.left d.dead nm = some (.inr ((fD37 d).1.t, ((), nm, [], 0, ()), 0, ()))) ∧
    (¬ (fD37 d).2 = 0 → fC10.run N d.room d.used d.files d.steps d.left d.dead nm = some (.inl ((fD37 d).1.t, (), (fD37 d).2, ()))) := by
  have hr : fA46.run N d.room d.used d.files d.steps d.left d.dead nm = some ((fD37 d).1.t, (fD37 d).2, ()) := by
    have h1 : fC26.run N d.room d.used d.files d.steps d.left d.dead nm = some ((bif mapHas d.files nm then dRemove d nm else (d, 0)).1.t, (bif mapHas d.files nm then dRemove d nm else (d, 0)).2, ()) := by
      refine go_o (Dk.fC49 d nm (Nat.le_trans (Dk.fD75 h nm) (by omega))) ?_
      cases hm : mapHas d.files nm with
      | true => exact go_o (Dk.fA91 d nm) rfl
      | false => rfl
    have hi : Both (k + 2) (bif mapHas d.files nm then dRemove d nm else (d, 0)) (bif mapHas r.files nm then rRemove r nm else (r, 0)) := by
      rw [h.has]
      cases mapHas r.files nm with
      | true => exact h.remove (by omega) nm
      | false => exact ⟨rfl, h.mono (by omega) (by omega)⟩
    refine go_o h1 ?_
    unfold fD37
    generalize (bif mapHas d.files nm then dRemove d nm else (d, 0)) = x at *
    by_cases he : x.2 = 0
    · rw [thn_ok he]
      refine go_nd he (go_o (go_o (Dk.fD52 hN x.1 nm [] (by decide) (by simp only [List.length_nil, Nat.add_zero]; exact Nat.le_trans (Dk.fD75 hi.2 nm) (by omega))) rfl) ?_)
      by_cases he2 : (dAppend x.1 nm []).2 = 0
      · rw [thn_ok he2]
        refine go_nd he2 (go_o (go_o (Dk.fC51 (dAppend x.1 nm []).1 nm) rfl) ?_)
        by_cases he3 : (dSync (dAppend x.1 nm []).1 nm).2 = 0
        · exact go_nd he3 (by rw [he3])
        · exact go_nn he3 rfl
      · rw [thn_no he2]
        exact go_nn he2 rfl
    · rw [thn_no he, thn_no he]
      exact go_nn he rfl
  exact ⟨fun he => go_o hr (go_nd he rfl), fun he => go_o hr (go_nn he rfl)⟩
theorem fA57 (hN : 8796093022208 ≤ N) {k : Nat} {d : DD} {r : RS} (h : Inv k d r) (hk : k + 4 ≤ 1000000000) :
    ((dOpen d).2 = 0 → fD5.run N d.room d.used d.files d.steps d.left d.dead nm = some (.inr ((dOpen d).1.t, ((), nm, (readP (dGet d nm).1).1, (readP (dGet d nm).1).2.1, ()), 0, ()))) ∧
    (¬ (dOpen d).2 = 0 → fD5.run N d.room d.used d.files d.steps d.left d.dead nm = some (.inl ((dOpen d).1.t, (), (dOpen d).2, ()))) := by
  obtain ⟨q, rfl⟩ : ∃ q, N = q + 20 := ⟨N - 20, by omega⟩
  have hl : (dGet d nm).1.length ≤ k := by rw [h.get]; exact h.fi.lenG nm
  have hread := Dk.fC49 (N := q + 20) d nm (by omega)
  have hrd := fB79 q (dGet d nm).1 (by omega) (by omega)
  by_cases hd : d.dead = true
  · have e : dOpen d = (d, 44) := by unfold dOpen; rw [hd]; rfl
    rw [e]
    exact ⟨fun he => by change (44 : Int) = 0 at he; omega, fun _ => go_o hread (go_o (Dk.fD51 (N := q + 20) d) (go_t hd rfl))⟩
  · have hd := Bool.eq_false_iff.2 hd
    by_cases hm : mapHas d.files nm = true
    · rw [hm] at hread
      by_cases hz : (readP (dGet d nm).1).2.2 = 0
      · have e : dOpen d = thn (bif decide ((readP (dGet d nm).1).2.1 < ((dGet d nm).1.length : Int)) then dTrunc d nm (readP (dGet d nm).1).2.1 else (d, 0)) fun d => dSync d nm := by
          unfold dOpen
          rw [hd, hm, decide_eq_true hz]; rfl
        rw [e]
        have h1 : fB36.run (q + 20) (readP (dGet d nm).1).2.1 (dGet d nm).1 d.room d.used d.files d.steps d.left d.dead nm =
            some ((bif decide ((readP (dGet d nm).1).2.1 < ((dGet d nm).1.length : Int)) then dTrunc d nm (readP (dGet d nm).1).2.1 else (d, 0)).1.t, (bif decide ((readP (dGet d nm).1).2.1 < ((dGet d nm).1.length : Int)) then dTrunc d nm (readP (dGet d nm).1).2.1 else (d, 0)).2, ()) := by
          unfold fB36.run
          cases decide ((readP (dGet d nm).1).2.1 < ((dGet d nm).1.length : Int)) with
          | true => exact go_o (Dk.fD97 (N := q + 20) d nm (readP (dGet d nm).1).2.1 (by omega)) rfl
          | false => rfl
        generalize (bif decide ((readP (dGet d nm).1).2.1 < ((dGet d nm).1.length : Int)) then dTrunc d nm (readP (dGet d nm).1).2.1 else (d, 0)) = x at *
        have hrow : fA42.run (q + 20) (readP (dGet d nm).1).2.1 (dGet d nm).1 d.room d.used d.files d.steps d.left d.dead nm = some ((thn x fun d => dSync d nm).1.t, (thn x fun d => dSync d nm).2, ()) := by
          refine go_o h1 ?_
          by_cases he : x.2 = 0
          · rw [thn_ok he]
            refine go_nd he (go_o (go_o (Dk.fC51 x.1 nm) rfl) ?_)
            by_cases he3 : (dSync x.1 nm).2 = 0
            · exact go_nd he3 (by rw [he3])
            · exact go_nn he3 rfl
          · rw [thn_no he]
            exact go_nn he rfl
        exact ⟨fun he => go_o hread (go_o (Dk.fD51 (N := q + 20) d) (go_f hd (go_f rfl (go_o hrd (go_nd hz (go_o hrow (go_nd he rfl))))))),
          fun he => go_o hread (go_o (Dk.fD51 (N := q + 20) d) (go_f hd (go_f rfl (go_o hrd (go_nd hz (go_o hrow (go_nn he rfl)))))))⟩
      · have e : dOpen d = (d, (readP (dGet d nm).1).2.2) := by
          unfold dOpen
          rw [hd, hm, decide_eq_false hz]; rfl
        rw [e]
        exact ⟨fun he => absurd he hz, fun _ => go_o hread (go_o (Dk.fD51 (N := q + 20) d) (go_f hd (go_f rfl (go_o hrd (go_nn hz rfl)))))⟩
    · have hm := Bool.eq_false_iff.2 hm
      rw [hm] at hread
      have e : dOpen d = (d, 42) := by unfold dOpen; rw [hd, hm]; rfl
      rw [e]
      exact ⟨fun he => by change (42 : Int) = 0 at he; omega, fun _ => go_o hread (go_o (Dk.fD51 (N := q + 20) d) (go_f hd (go_t rfl rfl)))⟩

/-- What a log has behind an Append. -/
def appL (e : Int) (l rs : List (List UInt8)) : List (List UInt8) := bif decide (e = 0) then l ++ rs else l
def appS (e s : Int) (rs : List (List UInt8)) : Int := bif decide ((rs.length : Int) = 0) then s else bif decide (e = 0) then IntKind.i64.wrap (s + ((frame (recB rs)).length : Int)) else s
theorem fA83 (hN : 8796093022208 ≤ N) {k : Nat} {d : DD} {r : RS} (h : Inv k d r) {rs l : List (List UInt8)} (hk : k + 4 + (frame (recB rs)).length ≤ 1000000000) (hs : Small rs) (hl : l.length ≤ 1000000000) (s : Int) :
    fC1.run N d.room d.used d.files d.steps d.left d.dead nm l s rs = some ((dApp d rs).1.t, ((), nm, appL (dApp d rs).2 l rs, appS (dApp d rs).2 s rs, ()), (dApp d rs).2, ()) := by
  obtain ⟨q, rfl⟩ : ∃ q, N = q + 20 := ⟨N - 20, by omega⟩
  by_cases h0 : (rs.length : Int) = 0
  · have e0 : rs = [] := List.eq_nil_of_length_eq_zero (by omega)
    subst e0
    refine go_d h0 ?_
    simp [dApp, appL, appS]
  · have hst := Small.tl hs
    have htt := tl_tot rs
    have hsm : tot rs + 9 ≤ 16777216 := hs
    have e : dApp d rs = thn (dAppend d nm (frame (recB rs))) fun d => dSync d nm := by unfold dApp; rw [decide_eq_false h0]; rfl
    have eS : ∀ x, appS x s rs = bif decide (x = 0) then IntKind.i64.wrap (s + ((frame (recB rs)).length : Int)) else s := fun x => by unfold appS; rw [decide_eq_false h0]; rfl
    rw [e, eS]
    have hlen : (dGet d nm).1.length ≤ k := by rw [h.get]; exact h.fi.lenG nm
    have hrow : fC33.run (q + 20) d.room d.used d.files d.steps d.left d.dead nm l s (frame (recB rs)) = some ((thn (dAppend d nm (frame (recB rs))) fun d => dSync d nm).1.t, (thn (dAppend d nm (frame (recB rs))) fun d => dSync d nm).2, ()) := by
      refine go_o (go_o (Dk.fD52 hN d nm (frame (recB rs)) (by decide) (by omega)) rfl) ?_
      by_cases he : (dAppend d nm (frame (recB rs))).2 = 0
      · rw [thn_ok he]
        refine go_nd he (go_o (go_o (Dk.fC51 (dAppend d nm (frame (recB rs))).1 nm) rfl) ?_)
        by_cases he3 : (dSync (dAppend d nm (frame (recB rs))).1 nm).2 = 0
        · exact go_nd he3 (by rw [he3])
        · exact go_nn he3 rfl
      · rw [thn_no he]
        exact go_nn he rfl
    generalize (thn (dAppend d nm (frame (recB rs))) fun d => dSync d nm) = x at *
    refine go_n h0 (go_o (fC91 q rs hs (by omega)) (go_nd rfl (go_o hrow ?_)))
    by_cases he : x.2 = 0
    · have h0' := fD70 (N := q + 20) x.1.room x.1.used x.1.files x.1.steps x.1.left x.1.dead nm s rs (by omega) (by omega) rs [] l (q + 20) rfl (by omega) (by omega)
      refine go_d he (go_o h0' ?_)
      unfold appL
      rw [he]; rfl
    · refine go_n he ?_
      unfold appL
      rw [decide_eq_false he]; rfl
end
end Go.Hay.YthlojpcjafefjaaGreat
