/- Statements whose order is open, third part: what operations look at and write; the law. -/
import Derived.Test.YthlojpcjafefjaaHayP
set_option linter.unusedVariables false
set_option linter.unusedSimpArgs false
namespace Go.Hay
open Go.RowKit
section
variable {P : Program} {B : Bs} {c : Cf} {w : World} {fr : Nat → Option Value} {a : Act} {C : Ctx} {U : TEnv}

theorem frz1_look {s : Obs} {x : AV} {i : Nat} (h : i ∉ x.ids) : look (frz1 s x) i = look s i := by
  unfold frz1
  split
  · rename_i id
    split
    · rw [look_put, if_neg (fun e => h (by simp [AV.ids, e]))]
    · rfl
  · rename_i id _ _ _
    split
    · rw [look_put, if_neg (fun e => h (by simp [AV.ids, e]))]
    · rfl
  · rfl
theorem frz_look [Sites] {i : Nat} : ∀ {xs : List AV} {s : Obs}, (∀ x ∈ xs, i ∉ x.ids) → look (frz s xs) i = look s i
  | [], s, h => rfl
  | x :: xs, s, h => by
    simp only [frz]
    rw [frz_look fun y hy => h y (List.mem_cons_of_mem _ hy), frz1_look (h x (by simp))]

theorem const_ids (v : Value) : (constAV v).ids = [] := by
  unfold constAV
  split <;> try rfl
  · cases fits _ _ <;> rfl
  · rename_i s; cases Nat.ble s.data.toList.length 1000000 <;> rfl

theorem fillIn_mem {place : Nat → Option (Nat × Nat)} : ∀ (parts : List (Nat × Option AV)) (cs out : List AV), fillIn place cs parts = some out → ∀ x ∈ out, x ∈ cs ∨ ∃ i v, (i, some v) ∈ parts ∧ x ∈ v.cells
  | [], cs, out, h, x, hx => by
    simp only [fillIn, Option.some.injEq] at h
    subst h
    exact .inl hx
  | (i, y) :: r, cs, out, h, x, hx => by
    unfold fillIn at h
    split at h
    · rename_i off size v hp
      split at h
      · rcases fillIn_mem r _ out h x hx with h1 | ⟨j, u, h1, h2⟩
        · simp only [List.mem_append] at h1
          rcases h1 with (h1 | h1) | h1
          · exact .inl (List.mem_of_mem_take h1)
          · exact .inr ⟨i, v, by simp, h1⟩
          · exact .inl (List.mem_of_mem_drop h1)
        · exact .inr ⟨j, u, List.mem_cons_of_mem _ h1, h2⟩
      · cases h
    · cases h

theorem cells_ids {v x : AV} {i : Nat} (hx : x ∈ v.cells) (hi : i ∈ x.ids) : i ∈ idsDeep v := by
  cases v with
  | agg cs => simp only [idsDeep, List.mem_flatMap]; exact ⟨x, by simpa [AV.cells] using hx, hi⟩
  | _ => simp only [AV.cells, List.mem_singleton] at hx; subst hx; simpa [idsDeep] using hi

theorem wr_mem {ρ : Operand → Option AV} {nx : Nat} {o : Op} {x : Operand} (hx : x ∈ o.operands) {v : AV} (hv : ρ x = some v) {i : Nat} (hi : i ∈ idsDeep v) : i ∈ wrE ρ nx o := by
  unfold wrE
  refine List.mem_cons_of_mem _ (List.mem_flatMap.2 ⟨x, Array.mem_toList_iff.2 hx, ?_⟩)
  simp only [hv]
  exact hi

theorem ids_deep {v : AV} {i : Nat} (h : i ∈ v.ids) : i ∈ idsDeep v := by
  cases v <;> first | exact h | (simp [AV.ids] at h)

theorem newBox_look {s : Obs} {nx : Nat} {t : TypeId} {cs : List AV} {v : AV} {s1 : Obs} {n1 : Nat} {b : Bool} (h : newBox s nx t cs = some (v, s1, n1, b)) {i : Nat} (hi : i ≠ nx) : look s1 i = look s i := by
  unfold newBox at h
  split at h
  · simp only [Option.some.injEq, Prod.mk.injEq] at h
    rw [← h.2.1, look_put, if_neg (fun e => hi e.symm)]
  · cases h

/-- What operations write. -/
theorem evalE_look [Sites] {ρ : Operand → Option AV} {s : Obs} {nx : Nat} {o : Op} {v : AV} {s1 : Obs} {n1 : Nat} {b : Bool} (h : evalE U ρ s nx o = some (v, s1, n1, b)) {i : Nat} (hi : i ∉ wrE ρ nx o) : look s1 i = look s i := by
  have hnx : i ≠ nx := fun e => hi (by rw [e]; unfold wrE; simp)
  have hop : ∀ x ∈ o.operands, ∀ u, ρ x = some u → i ∉ idsDeep u := fun x hx u hu hm => hi (wr_mem hx hu hm)
  unfold evalE at h
  split at h
  · unfold eAlloc at h
    split at h
    · split at h
      · split at h
        · split at h
          · simp only [Option.some.injEq, Prod.mk.injEq] at h
            rw [← h.2.1, look_put, if_neg (fun e => hnx e.symm)]
          · cases h
        · cases h
      · exact newBox_look h hnx
    · cases h
  · unfold eBox at h
    split at h
    · exact newBox_look h hnx
    · cases h
  · rename_i t len parts
    unfold eBuildSlice at h
    split at h
    · split at h
      · split at h
        · rename_i cs hf
          split at h
          · split at h
            · simp only [Option.some.injEq, Prod.mk.injEq] at h
              rw [← h.2.1, look_put, if_neg (fun e => hnx e.symm)]
              refine frz_look fun x hx => ?_
              rcases fillIn_mem _ _ _ hf x hx with h1 | ⟨j, u, h1, h2⟩
              · simp only [List.mem_flatten, List.mem_replicate] at h1
                obtain ⟨l, ⟨_, rfl⟩, h1⟩ := h1
                simp only [atoms, List.mem_map] at h1
                obtain ⟨z, _, rfl⟩ := h1
                rw [const_ids]
                simp
              · unfold evParts at h1
                obtain ⟨p, hp, he⟩ := List.mem_map.1 h1
                simp only [Prod.mk.injEq] at he
                intro hix
                exact hop p.2 (by simp only [Op.operands, List.mem_toArray, List.mem_map]; exact ⟨p, hp, rfl⟩) u he.2 (cells_ids h2 hix)
            · cases h
          · cases h
        · cases h
      · split at h
        · split at h
          · simp only [Option.some.injEq, Prod.mk.injEq] at h
            rw [← h.2.1, look_put, if_neg (fun e => hnx e.symm)]
          · cases h
        · cases h
      · cases h
    · cases h
  · rename_i t x y
    have hx := hop x (by simp [Op.operands])
    have hy := hop y (by simp [Op.operands])
    unfold eStore at h
    split at h
    · rename_i i0 j v' _ hxx hyy
      split at h
      · split at h
        · simp only [Option.some.injEq, Prod.mk.injEq] at h
          rw [← h.2.1, look_put, if_neg (fun e => hx _ hxx (by simp [idsDeep, AV.ids, e]))]
        · cases h
      · cases h
    · rename_i id sz i0 j v' _ hxx hyy
      split at h
      · split at h
        · split at h
          · simp only [Option.some.injEq, Prod.mk.injEq] at h
            rw [← h.2.1, look_put, if_neg (fun e => hx _ hxx (by simp [idsDeep, AV.ids, e]))]
            exact frz_look fun z hz hiz => hy _ hyy (cells_ids hz hiz)
          · cases h
        · cases h
      · cases h
    · cases h
  · rename_i src dst x
    have hx := hop x (by simp [Op.operands])
    unfold eConv at h
    split at h
    · unfold eBytes at h
      split at h
      · split at h
        · split at h
          · simp only [Option.some.injEq, Prod.mk.injEq] at h
            rw [← h.2.1, look_put, if_neg (fun e => hnx e.symm)]
          · cases h
        · cases h
      · cases h
    · unfold eMark at h
      split at h
      · split at h
        · rename_i id _ hxx
          split at h
          · split at h
            · simp only [Option.some.injEq, Prod.mk.injEq] at h
              rw [← h.2.1, look_put, if_neg (fun e => hx _ hxx (by simp [idsDeep, AV.ids, e]))]
            · cases h
          · cases h
        · cases h
      · cases h
  · unfold eMake at h
    split at h
    · split at h
      · split at h
        · simp only [Option.some.injEq, Prod.mk.injEq] at h
          rw [← h.2.1, look_put, if_neg (fun e => hnx e.symm)]
        · cases h
      · cases h
    · cases h
  · unfold eMakeMap at h
    split at h
    · split at h
      · split at h
        · simp only [Option.some.injEq, Prod.mk.injEq] at h
          rw [← h.2.1, look_put, if_neg (fun e => hnx e.symm)]
        · cases h
      · cases h
    · cases h
  · rename_i t m k y
    have hx := hop m (by simp [Op.operands])
    have hy := hop y (by simp [Op.operands])
    unfold eMapUpdate at h
    split at h
    · split at h
      · rename_i id key v' _ hxx _ hyy
        split at h
        · split at h
          · split at h
            · simp only [Option.some.injEq, Prod.mk.injEq] at h
              rw [← h.2.1, look_put, if_neg (fun e => hx _ hxx (by simp [idsDeep, AV.ids, e]))]
              exact frz_look fun z hz hiz => hy _ hyy (cells_ids hz hiz)
            · cases h
          · cases h
        · cases h
      · cases h
    · cases h
  · rename_i args ts
    split at h
    · rename_i m k t tr ha ht
      have hx := hop m (by simp only [Op.operands, Call.operands, Array.mem_append]; right; rw [← Array.mem_toList_iff, ha]; simp)
      unfold eDelete at h
      split at h
      · split at h
        · rename_i id key _ hxx _
          split at h
          · simp only [Option.some.injEq, Prod.mk.injEq] at h
            rw [← h.2.1, look_put, if_neg (fun e => hx _ hxx (by simp [idsDeep, AV.ids, e]))]
          · cases h
        · cases h
      · cases h
    · cases h
  · rename_i args ts
    split at h
    · rename_i x y t t' ha ht
      have hx := hop x (by simp only [Op.operands, Call.operands, Array.mem_append]; right; rw [← Array.mem_toList_iff, ha]; simp)
      split at h
      · rename_i r hr
        simp only [Option.some.injEq] at h
        subst h
        have h := hr
        unfold eAppend at h
        split at h
        · split at h
          · split at h
            · rename_i id hxx
              split at h
              · split at h
                · split at h
                  · simp only [Option.some.injEq, Prod.mk.injEq] at h
                    rw [← h.2.1, look_put, if_neg (fun e => hnx e.symm), look_put, if_neg (fun e => hx _ hxx (by simp [idsDeep, AV.ids, e]))]
                  · cases h
                · cases h
              · cases h
            · split at h
              · split at h
                · split at h
                  · simp only [Option.some.injEq, Prod.mk.injEq] at h
                    rw [← h.2.1, look_put, if_neg (fun e => hnx e.symm)]
                  · cases h
                · cases h
              · cases h
            · cases h
          · cases h
        · cases h
      · unfold eZeros at h
        split at h
        · split at h
          · split at h
            · simp only [Option.some.injEq, Prod.mk.injEq] at h
              rw [← h.2.1, look_put, if_neg (fun e => hnx e.symm)]
            · cases h
          · cases h
        · cases h
    · cases h
  · cases h

theorem foot_rho {ρ ρ' : Operand → Option AV} {o : Op} (h : ∀ x ∈ o.operands, ρ x = ρ' x) : foot ρ o = foot ρ' o := by
  unfold foot
  congr 1
  rw [List.flatMap_def, List.flatMap_def]
  congr 1
  exact List.map_congr_left fun x hx => by rw [h x (Array.mem_toList_iff.1 hx)]
theorem wrE_rho {ρ ρ' : Operand → Option AV} {nx : Nat} {o : Op} (h : ∀ x ∈ o.operands, ρ x = ρ' x) : wrE ρ nx o = wrE ρ' nx o := by
  unfold wrE
  rw [List.flatMap_def, List.flatMap_def]
  congr 2
  exact List.map_congr_left fun x hx => by rw [h x (Array.mem_toList_iff.1 hx)]
theorem callee_rho [Sites] {ρ ρ' : Operand → Option AV} {o : Op} (h : ∀ x ∈ o.operands, ρ x = ρ' x) : callee ρ o = callee ρ' o := by
  unfold callee
  split
  · rename_i f args ts
    rw [h f (by simp [Op.operands, Call.operands]), map_rho fun x hx => h x (by simp only [Op.operands, Call.operands, Array.mem_append]; exact .inr (Array.mem_toList_iff.1 hx))]
  · rfl

theorem yieldee_rho [Sites] {ρ ρ' : Operand → Option AV} {o : Op} (h : ∀ x ∈ o.operands, ρ x = ρ' x) : yieldee ρ o = yieldee ρ' o := by
  unfold yieldee
  split
  · rename_i f args ts
    rw [h f (by simp [Op.operands, Call.operands]), map_rho fun x hx => h x (by simp only [Op.operands, Call.operands, Array.mem_append]; exact .inr (Array.mem_toList_iff.1 hx))]
  · rfl

/-- An operation comes to the same where its operands are the same, and what it looks at. -/
theorem Did.move [Sites] {o : Op} {ρ ρ' : Operand → Option AV} {s s' : Obs} {nx nx' : Nat} {v : AV} {s1 : Obs} {n1 : Nat} {lg : Lg} (h : Did C o ρ s nx v s1 n1 lg) (hρ : ∀ x ∈ o.operands, ρ x = ρ' x)
    (hq : ∀ ids, lg = .rd ids → ∀ i ∈ ids, look s' i = look s i) (he : lg.isWr = true → s' = s ∧ nx' = nx) :
    (lg.isWr = true ∧ Did C o ρ' s' nx' v s1 n1 lg) ∨ (lg.isWr = false ∧ Did C o ρ' s' nx' v s' nx' lg) := by
  cases h with
  | quiet _ hv =>
    right
    refine ⟨rfl, ?_⟩
    rw [foot_rho hρ]
    refine .quiet v ?_
    have h1 : evalV C.U ρ' (rdk s') o = evalV C.U ρ' (rdk s) o := evalV_lk o fun i hi => by
      unfold rdk
      rw [hq _ rfl i (by rw [foot_rho hρ]; exact hi)]
    rw [h1, ← evalV_rho o hρ]
    exact hv
  | eff _ _ _ hv hE =>
    left
    obtain ⟨rfl, rfl⟩ := he rfl
    refine ⟨rfl, ?_⟩
    rw [wrE_rho hρ]
    exact .eff v s1 n1 (by rw [← evalV_rho o hρ]; exact hv) (by rw [← evalE_rho o hρ]; exact hE)
  | call f args K x y _ _ _ W hv hE hcal hK hx hy hpost =>
    left
    obtain ⟨rfl, rfl⟩ := he rfl
    exact ⟨rfl, .call f args K x y v s1 n1 W (by rw [← evalV_rho o hρ]; exact hv) (by rw [← evalE_rho o hρ]; exact hE) (by rw [← callee_rho hρ]; exact hcal) hK hx hy hpost⟩
  | round id args t cs q _ _ _ W hv hE hcal hy hl hq' h1 =>
    left
    obtain ⟨rfl, rfl⟩ := he rfl
    exact ⟨rfl, .round id args t cs q v s1 n1 W (by rw [← evalV_rho o hρ]; exact hv) (by rw [← evalE_rho o hρ]; exact hE) (by rw [← callee_rho hρ]; exact hcal) (by rw [← yieldee_rho hρ]; exact hy) hl hq' h1⟩

theorem Did.wrote [Sites] (hC : C.Ok P) {o : Op} {ρ : Operand → Option AV} {s : Obs} {nx : Nat} {v : AV} {s1 : Obs} {n1 : Nat} {lg : Lg} (h : Did C o ρ s nx v s1 n1 lg) :
    (∀ ids, lg = .wr ids → ∀ i, i ∉ ids → look s1 i = look s i) ∧ (lg.isWr = false → s1 = s ∧ n1 = nx) := by
  cases h with
  | quiet _ hv => exact ⟨fun ids e => (by cases e), fun _ => ⟨rfl, rfl⟩⟩
  | eff _ _ _ hv hE => exact ⟨fun ids e i hi => by cases e; exact evalE_look hE hi, fun e => by cases e⟩
  | call f args K x y _ _ _ W hv hE hcal hK hx hy hpost => exact ⟨fun ids e i hi => by cases e; exact (hC.Γ f K hK).wrote args s nx x y v s1 n1 W hx hpost i hi, fun e => by cases e⟩
  | round id args t cs q _ _ _ W hv hE hcal hy hl hq h1 => exact ⟨fun ids e i hi => by cases e; exact (hC.Y t q hq).wrote args id cs s nx v s1 n1 W h1 hl i hi, fun e => by cases e⟩

theorem Done.wrote [Sites] (hC : C.Ok P) {ops : Array Oper} {o : Oper} {ρ : Operand → Option AV} {s : Obs} {nx : Nat} {v : AV} {s1 : Obs} {n1 : Nat} {lg : Lg} (h : Done C ops o ρ s nx v s1 n1 lg) :
    (∀ ids, lg = .wr ids → ∀ i, i ∉ ids → look s1 i = look s i) ∧ (lg.isWr = false → s1 = s ∧ n1 = nx) := by
  cases h with
  | run _ _ _ _ hg hd => exact hd.wrote hC
  | skip g want t hgd ht hb => exact ⟨fun ids e => (by cases e), fun _ => ⟨rfl, rfl⟩⟩
  | skipu g want t hgd ht hb => exact ⟨fun ids e => (by cases e), fun _ => ⟨rfl, rfl⟩⟩

theorem Done.move [Sites] {ops : Array Oper} {o : Oper} {ρ ρ' : Operand → Option AV} {s s' : Obs} {nx nx' : Nat} {v : AV} {s1 : Obs} {n1 : Nat} {lg : Lg} (h : Done C ops o ρ s nx v s1 n1 lg) (hρ : ∀ x ∈ o.op.operands, ρ x = ρ' x)
    (hgt : ∀ t ∈ tmpsOf ops o, ρ (.tmp t) = ρ' (.tmp t))
    (hq : ∀ ids, lg = .rd ids → ∀ i ∈ ids, look s' i = look s i) (he : lg.isWr = true → s' = s ∧ nx' = nx) :
    (lg.isWr = true ∧ Done C ops o ρ' s' nx' v s1 n1 lg) ∨ (lg.isWr = false ∧ Done C ops o ρ' s' nx' v s' nx' lg) := by
  have hgm : ∀ g want t, o.guard = some (g, want) → guardTmp ops g = some t → t ∈ tmpsOf ops o := fun g want t h1 h2 => by simp [tmpsOf, h1, h2]
  cases h with
  | run _ _ _ _ hg hd =>
    have hg' : ∀ g want, o.guard = some (g, want) → ∃ t, guardTmp ops g = some t ∧ ρ' (.tmp t) = some (.bool want) := fun g want hgw => by
      obtain ⟨t, h1, h2⟩ := hg g want hgw
      exact ⟨t, h1, by rw [← hgt t (hgm g want t hgw h1)]; exact h2⟩
    rcases hd.move hρ hq he with ⟨h1, h2⟩ | ⟨h1, h2⟩
    · exact .inl ⟨h1, .run v s1 n1 lg hg' h2⟩
    · exact .inr ⟨h1, .run v s' nx' lg hg' h2⟩
  | skip g want t hgd ht hb => exact .inr ⟨rfl, .skip g want t hgd ht (by rw [← hgt t (hgm g want t hgd ht)]; exact hb)⟩
  | skipu g want t hgd ht hb => exact .inr ⟨rfl, .skipu g want t hgd ht (by rw [← hgt t (hgm g want t hgd ht)]; exact hb)⟩
end
end Go.Hay
