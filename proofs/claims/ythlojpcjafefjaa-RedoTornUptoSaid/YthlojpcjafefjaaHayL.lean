/- append; bytes of a string; all operations that make or write memory of ours. -/
import Derived.Test.YthlojpcjafefjaaHayK
set_option linter.unusedVariables false
set_option linter.unusedSimpArgs false
namespace Go.Hay
open Go.RowKit
section
variable {P : Program} {U : TEnv} {B : Bs} {c : Cf} {w : World} {s : Obs} {nx : Nat} {ρ : Operand → Option AV} {e : Operand → Value}

/-- What is appended: how many elements, their cells, in every world with this memory. -/
def SrcAt (P : Program) (w : World) (sz : Nat) (u : TypeId) (y : Value) (m : Nat) (news : List Value) : Prop :=
  news.length = m * sz ∧ (∀ v ∈ news, v.oneCell' = true) ∧ (∃ d, P.underlying u = some d ∧ (d = .string ∨ ∃ e', d = .slice e')) ∧
  ∀ w', w'.heap = w.heap → (Builtin.lenOf y).run P w' = .ok m w' ∧ (Builtin.firstCells sz m y).run P w' = .ok news.toArray w'

theorem run_append_row [Sites] (hU : U.Ok P) {t t' ty el : TypeId} (hk : (U t).k = .slice el) (hr : (U el).real = true) {v y : Value} {n m : Nat} {us news : List Value}
    (hrow : RowAt w el (U el).size v n us) (hsl : isSlice v = true) (hsrc : SrcAt P w (U el).size t' y m news) (hb : (n + m) * (U el).bytes ≤ 140737488355328) (hm : n + m ≤ 140737488355328) :
    ∃ v' w', (Builtin.append_ #[t, t'] ty #[v, y]).run P w = .ok v' w' ∧ RowAt w' el (U el).size v' (n + m) (us ++ news) ∧
      (∀ b, b < w.heap.size → blockOf v ≠ some b → w'.heap[b]? = w.heap[b]?) ∧ (∀ b, blockOf v' = some b → blockOf v = some b ∨ w.heap.size ≤ b) ∧
      w'.os = w.os ∧ w'.tape = w.tape ∧ w'.output = w.output ∧ w.heap.size ≤ w'.heap.size ∧ isSlice v' = true := by
  have hu := (hU t (by simp [hk])).1
  simp only [TD.kindOk, hk] at hu
  obtain ⟨hkd, hi, hs⟩ := real_ok hU hr
  have hzl := (real_zero hr).2
  unfold TD.infoOk at hi
  cases hinfo : P.info? el with
  | none => simp [hinfo] at hi
  | some i =>
    simp only [hinfo, Option.map_some, Option.some.injEq, Prod.mk.injEq] at hi
    obtain ⟨i1, i2, i3⟩ := hi
    cases hz : i.zero with
    | none => simp [hz] at i3
    | some z =>
      simp only [hz, Option.map_some, Option.some.injEq] at i3
      have hzs : z.cells.size = (U el).size := by rw [← Array.length_toList, i3, hzl]
      obtain ⟨hl, h1, ⟨d, hd, hdi⟩, hrun⟩ := hsrc
      have hlen : (us ++ news).length = (n + m) * (U el).size := by rw [List.length_append, hrow.1, hl, Nat.add_mul]
      have h63 : ¬ (9223372036854775807 < ((n : Int) + (m : Int))) := by omega
      -- a new block
      have grow : ∀ (A : Option Addr) (cap : Nat), v = .slice A n cap → cap < n + m → (∀ w', w'.heap = w.heap → (Builtin.firstCells (U el).size n v).run P w' = .ok us.toArray w') →
          ∃ v' w', (Builtin.append_ #[t, t'] ty #[v, y]).run P w = .ok v' w' ∧ RowAt w' el (U el).size v' (n + m) (us ++ news) ∧
            (∀ b, b < w.heap.size → blockOf v ≠ some b → w'.heap[b]? = w.heap[b]?) ∧ (∀ b, blockOf v' = some b → blockOf v = some b ∨ w.heap.size ≤ b) ∧
            w'.os = w.os ∧ w'.tape = w.tape ∧ w'.output = w.output ∧ w.heap.size ≤ w'.heap.size ∧ isSlice v' = true := by
        intro A cap ev hlt hold
        have hge := grownCap_ge w (n + m) cap el
        have hcm := grownCap_le_maxLen w (n + m) cap el (by unfold maxLen; omega)
        have hfit := growslice_fits (old := cap) hlt hb
        have h48 : ¬ (281474976710656 < Builtin.nextslicecap (n + m) cap * i.bytes) := by rw [i2]; omega
        refine ⟨.slice (some ⟨w.heap.size, 0, none⟩) (n + m) (grownCap w (n + m) cap el), w.drew.alloc (.cells (us.toArray ++ news.toArray ++ Builtin.zeroCells z.cells (grownCap w (n + m) cap el - (n + m))) el), ?_, ?_, ?_, ?_, rfl, rfl, rfl, by simp, rfl⟩
        · have g1 := (hrun w rfl).1
          have g2 := (hrun w.drew rfl).2
          have g3 := hold w.drew rfl
          have hn : ¬ (n + m ≤ cap) := by omega
          rw [ev] at g3 ⊢
          simp only [Builtin.append_, Array.getElem?_toList, List.getElem?_toArray, List.getElem?_cons_zero, List.getElem?_cons_succ, Sem.run_bind, run_underlying hu, Result.andThen_ok, run_underlying hd]
          have hsz : (sizeOf el).run P w = .ok (U el).size w := by simp [sizeOf, typeInfo, hinfo, i1]
          rcases hdi with rfl | ⟨e', rfl⟩ <;> simp [hsz, g1, hn, typeInfo, hinfo, h63, h48, Question.forced, g2, g3, zeroValue, hz, newRow, newObj, Sem.run, grownCap] <;> (congr 2; apply Array.ext'; simp [List.append_assoc])
        · refine ⟨hlen, .inr <| .inl ⟨w.heap.size, _, _, rfl, by omega, hge, hcm, heap_alloc_new w.drew _, ?_, ?_⟩⟩
          · simp only [Array.size_append, List.size_toArray, size_zeroCells, hzs, hrow.1, hl, ← Nat.add_mul]
            congr 1
            omega
          · simp only [Array.toList_append, List.append_assoc]
            rw [← List.append_assoc, ← hlen]
            exact List.take_left
        · intro b hb' _
          exact heap_alloc_old w.drew _ b hb'
        · intro b hb'
          simp only [blockOf] at hb'
          split at hb'
          · cases hb'
          · simp only [Option.some.injEq] at hb'; right; omega
      rcases hrow.2 with ⟨h0, A, rfl⟩ | ⟨b, cap, cur, rfl, hpos, hnc, hcm, hg, hcs, htake⟩ | ⟨b, es, q, rfl, _⟩
      rotate_left 2
      · cases hsl
      · subst h0
        have hx : us = [] := List.eq_nil_of_length_eq_zero (by simpa using hrow.1)
        subst hx
        rcases Nat.eq_zero_or_pos m with rfl | hmp
        · have hn : news = [] := List.eq_nil_of_length_eq_zero (by simpa using hl)
          subst hn
          refine ⟨.slice A 0 0, w, ?_, ⟨by simp, .inl ⟨rfl, A, rfl⟩⟩, fun _ _ _ => rfl, fun b hb' => .inl hb', rfl, rfl, rfl, Nat.le_refl _, rfl⟩
          have g1 := (hrun w rfl).1
          have g2 := (hrun w rfl).2
          simp only [Builtin.append_, Array.getElem?_toList, List.getElem?_toArray, List.getElem?_cons_zero, List.getElem?_cons_succ, Sem.run_bind, run_underlying hu, Result.andThen_ok, run_underlying hd]
          have hsz : (sizeOf el).run P w = .ok (U el).size w := by simp [sizeOf, typeInfo, hinfo, i1]
          rcases hdi with rfl | ⟨e', rfl⟩ <;> cases A <;> simp [hsz, g1, g2, storeCells]
        · refine grow A 0 rfl (by omega) fun w' _ => ?_
          cases A <;> simp [Builtin.firstCells, loadCells, loadCellsFrom]
      · by_cases hroom : n + m ≤ cap
        · have hfit : n * (U el).size + news.length ≤ cur.size := by rw [hl, hcs, ← Nat.add_mul]; exact Nat.mul_le_mul_right _ hroom
          have hst := run_storeCells_at P b (n * (U el).size) el news 0 cur w hg (by simpa using hfit) h1
          simp only [Nat.add_zero] at hst
          refine ⟨.slice (some ⟨b, 0, none⟩) (n + m) cap, w.setRow b (cur.toList.take (n * (U el).size) ++ news ++ cur.toList.drop (n * (U el).size + news.length)).toArray, ?_, ⟨hlen, .inr <| .inl ⟨b, cap, _, rfl, hpos, hroom, hcm, setRow_heap w b cur _ el _ hg, ?_, ?_⟩⟩, fun k _ hk => setRow_other w b k _ (fun e => hk (by rw [e]; simp [blockOf]; omega)), fun k hk => .inl (by simpa [blockOf] using hk), rfl, rfl, rfl, by simp [World.setRow], rfl⟩
          · have g1 := (hrun w rfl).1
            have g2 := (hrun w rfl).2
            simp only [Builtin.append_, Array.getElem?_toList, List.getElem?_toArray, List.getElem?_cons_zero, List.getElem?_cons_succ, Sem.run_bind, run_underlying hu, Result.andThen_ok, run_underlying hd]
            have hsz : (sizeOf el).run P w = .ok (U el).size w := by simp [sizeOf, typeInfo, hinfo, i1]
            rcases hdi with rfl | ⟨e', rfl⟩ <;> simp [hsz, g1, hroom, g2, addr_add, hst]
          · simp only [List.size_toArray, List.length_append, List.length_take, List.length_drop, Array.length_toList]
            omega
          · simp only [List.toList_toArray]
            rw [htake, ← hlen]
            exact List.take_left
        · refine grow (some ⟨b, 0, none⟩) cap rfl (by omega) fun w' hw' => ?_
          have hc' : ∀ j u, us[j]? = some u → w'.cell? ((⟨b, 0, none⟩ : Addr).add j) = some u := fun j u hj => by
            rw [addr_add, cell_of_row w' b (0 + j) cur el (0, 0) (by rw [hw']; exact hg), Nat.zero_add]
            rw [← htake, List.getElem?_take] at hj
            split at hj
            · simpa using hj
            · cases hj
          exact run_firstCells_some (P := P) w' (U el).size n ⟨b, 0, none⟩ n cap us hrow.1 hc'

theorem SeqAt.src [Sites] (hU : U.Ok P) {t el : TypeId} (hk : (U t).k = .slice el) {T : Ty} {l : List T.den} {y : Value} (h : SeqAt c w T l y) (hT : T.size = (U el).size) : ∃ news, SrcAt P w (U el).size t y l.length news ∧ Cat (TR c.I w T) l news := by
  have hu := (hU t (by simp [hk])).1
  simp only [TD.kindOk, hk] at hu
  obtain ⟨A, cap, us, rfl, h1, h2, h3, hc, hcell⟩ := h
  refine ⟨us, ⟨by rw [hc.length TR_len_fun, hT], Cat.one hc, ⟨_, hu, .inr ⟨_, rfl⟩⟩, fun w' hw' => ⟨by simp [Builtin.lenOf], ?_⟩⟩, hc⟩
  have hul : us.length = l.length * (U el).size := by rw [hc.length TR_len_fun, hT]
  cases A with
  | none =>
    have : l = [] := List.eq_nil_of_length_eq_zero (h3 rfl)
    subst this
    simp only [Cat] at hc
    subst hc
    simp [Builtin.firstCells]
  | some ad =>
    rcases Nat.eq_zero_or_pos l.length with h0 | h0
    · have : l = [] := List.eq_nil_of_length_eq_zero h0
      subst this
      simp only [Cat] at hc
      subst hc
      simp [Builtin.firstCells, loadCells, loadCellsFrom]
    · obtain ⟨hs, hcl⟩ := hcell ad rfl h0
      obtain ⟨b, o, sp⟩ := ad
      simp only at hs hcl
      subst hs
      refine run_firstCells_some (P := P) w' (U el).size l.length ⟨b, o, none⟩ l.length cap us hul fun j u hj => ?_
      rw [addr_add]
      have := hcl j u hj
      rw [← this]
      exact World.cell?_of_block (w := w) (w' := w') (a := ⟨b, o + j, none⟩) (by rw [hw'])

theorem str_src (hU : U.Ok P) {t' el : TypeId} (hk : (U t').k = .string) {l : List UInt8} (hsz : (U el).size = 1) : SrcAt P w (U el).size t' (.string ⟨l.toArray⟩) l.length ((l.map fun x => (x.toNat : Int)).map (Value.int .u8)) := by
  have hu := (hU t' (by simp [hk])).1
  simp only [TD.kindOk, hk] at hu
  have e1 : (⟨l.toArray⟩ : ByteArray).size = l.length := by simp [ByteArray.size]
  refine ⟨by simp [hsz], fun v hv => by simp only [List.mem_map] at hv; obtain ⟨n, _, rfl⟩ := hv; rfl, ⟨_, hu, .inl rfl⟩, fun w' _ => ⟨by simp only [Builtin.lenOf, Sem.run_pure, e1], ?_⟩⟩
  have e2 : (⟨l.toArray⟩ : ByteArray).extract 0 l.length = ⟨l.toArray⟩ := by
    apply ByteArray.ext
    simp [List.extract_eq_drop_take']
  simp only [Builtin.firstCells, e2, Sem.run_pure]
  congr 1
  apply Array.toList_inj.1
  simp

theorem byte_cat {I : Nat → Prop} : ∀ (l : List UInt8), Cat (TR I w .byte) l ((l.map fun x => (x.toNat : Int)).map (Value.int .u8))
  | [] => rfl
  | x :: l => ⟨[.int .u8 (x.toNat : Int)], _, rfl, by simp only [TR], byte_cat l⟩

/-- What is appended stands for a list. -/
theorem src_ok [Sites] (hU : U.Ok P) {t t' el : TypeId} (hk : (U t).k = .slice el) {T : Ty} (hT : T.size = (U el).size) {y : Option AV} {m : List T.den} (hlk : Obs.Ok c w (rdk s)) {u : Value} (hy : ∀ x, y = some x → VR c w x u)
    (h : (match Nat.beq t t', (U t').k with | true, _ => srcOf (rdk s) T y | false, .string => srcStr T y | _, _ => .none) = some m) : ∃ news, SrcAt P w (U el).size t' u m.length news ∧ Cat (TR c.I w T) m news := by
  split at h
  · rename_i hb
    have := Nat.eq_of_beq_eq_true hb
    subst this
    unfold srcOf at h
    split at h
    · exact (listOf_ok hlk h (hy _ rfl)).src hU hk hT
    · cases h
  · rename_i hb hs
    unfold srcStr at h
    split at h
    · rename_i l
      simp only [Option.some.injEq] at h
      subst h
      have := hy _ rfl
      simp only [VR] at this
      rw [this.1]
      exact ⟨_, str_src hU hs hT.symm, byte_cat l⟩
    · cases h
  · cases h

theorem room_ok {n b : Nat} (h : room n b = true) : n * b ≤ 140737488355328 ∧ n ≤ 140737488355328 := by simpa [room] using h

theorem own_row {id : Nat} {el : TypeId} {T : Ty} {l : List T.den} {v : Value} {b : Nat} (hv : c.nm id = some v) : Own c id (.row el T l) b ↔ blockOf v = some b := by
  simp [Own, hv]

theorem eAppend_ok [Sites] (hU : U.Ok P) {o : Oper} {t t' : TypeId} {x y : Operand} (ho : o.op = .call { callee := .builtin .append, args := #[x, y], argTypes := #[t, t'] }) {v : AV} {s1 : Obs} {n1 : Nat}
    (h : eAppend U s nx t t' (ρ x) (ρ y) = some (v, s1, n1, true)) (hR : Rel B c s w) (hρ : Ops.Ok c w ρ e) : Does P B c w (execOp e o) v s1 := by
  unfold eAppend at h
  split at h
  · rename_i el hk
    split at h
    · rename_i hr
      split at h
      · rename_i id hx
        have hx' := hρ _ _ hx
        simp only [VR] at hx'
        split at h
        · rename_i e' T l hl
          split at h
          · rename_i m hm
            split at h
            · rename_i hc
              simp only [Bool.and_eq_true] at hc
              obtain ⟨hc1, hc2, hc3⟩ := hc
              have hc2 := Nat.eq_of_beq_eq_true hc2
              have hc3 := Nat.eq_of_beq_eq_true hc3
              subst hc2
              simp only [Option.some.injEq, Prod.mk.injEq] at h
              obtain ⟨rfl, rfl, _, hroom⟩ := h
              obtain ⟨hb, hm2⟩ := room_ok hroom
              obtain ⟨news, hsrc, hcat⟩ := src_ok (P := P) (c := c) (w := w) hU hk hc3 hR.rdk (fun x hx => hρ _ _ hx) hm
              obtain ⟨v0, us, g1, g2, g3⟩ := hR.ob _ _ hl
              have hrowlen := hR.obs id _ hl
              rw [hc3] at g2
              have ex : e x = v0 := by have := hx'.1; rw [g1] at this; exact (Option.some.inj this).symm
              obtain ⟨v', w', hrun, hrow, hh, hblk, hos, htp, hout, hsz, hsl⟩ := run_append_row (P := P) (ty := o.type) hU hk hr g2 (by rw [← ex]; exact hx'.2) hsrc hb hm2
              -- the old name falls
              obtain ⟨hR1, hE1⟩ := hR.upd (c' := c) (w' := w) id .dead (fun _ => False) (fun _ _ h => h) (fun _ _ => rfl) (fun _ h => h) (fun _ h => .inl h) (fun _ _ _ => rfl) (fun _ h => h.elim) (fun _ => trivial) (fun _ h => h.elim) rfl rfl rfl (Nat.le_refl _)
              have hne : id ≠ nx := fun e => by subst e; rw [isFresh_none hc1] at hl; cases hl
              have hfr : look (put s id .dead) nx = none := by rw [look_put, if_neg hne]; exact isFresh_none hc1
              have hnone := hR1.dom nx hfr
              have hWfree : ∀ b, blockOf v0 = some b → Free B c (put s id .dead) nx b := fun b hb' => by
                have hf := hR.free hl ((own_row g1).2 hb')
                refine ⟨fun j oj hj hlj ho => ?_, hf.2⟩
                rw [look_put] at hlj
                split at hlj
                · simp only [Option.some.injEq] at hlj; subst hlj; exact ho
                · rename_i hji; exact hf.1 j oj (fun e => hji e.symm) hlj ho
              obtain ⟨hR2, hE2⟩ := hR1.upd (c' := ⟨fun i => if i = nx then some v' else c.nm i, c.I⟩) (w' := w') nx (.row e' T (l ++ m)) (fun b => blockOf v0 = some b)
                (fun i u hv => by
                  by_cases e : i = nx
                  · subst e; rw [hnone] at hv; cases hv
                  · simp [e, hv])
                (fun i hi => by simp [hi]) (fun _ h => h) (fun b hb => .inl hb) (fun b hb' hw => hh b hb' hw) hWfree
                (fun hE => ⟨v', us ++ news, by simp, by rw [List.length_append, hc3]; exact hrow, (Cat.lasts hE.lasts g3).append (Cat.lasts hE.lasts hcat)⟩)
                (fun b hb' => by
                  obtain ⟨v2, q1, q2⟩ := hb'
                  simp at q1
                  subst q1
                  exact hblk b q2)
                hos htp hout hsz
              refine ⟨_, w', v', .inl ?_, hR2, by simp only [VR]; exact ⟨by simp, hsl⟩, hE1.trans hE2⟩
              simp [execOp, ho, resolve, invoke, builtin, ex, hrun]
            · cases h
          · cases h
        · cases h
      · rename_i hx
        have hx' := hρ _ _ hx
        simp only [VR] at hx'
        obtain ⟨A, ex⟩ := hx'
        split at h
        · rename_i T hT
          split at h
          · rename_i m hm
            split at h
            · rename_i hc
              simp only [Bool.and_eq_true] at hc
              obtain ⟨hc1, hc3⟩ := hc
              have hc3 := Nat.eq_of_beq_eq_true hc3
              simp only [Option.some.injEq, Prod.mk.injEq] at h
              obtain ⟨rfl, rfl, _, hroom⟩ := h
              obtain ⟨hb, hm2⟩ := room_ok hroom
              obtain ⟨news, hsrc, hcat⟩ := src_ok (P := P) (c := c) (w := w) hU hk hc3 hR.rdk (fun x hx => hρ _ _ hx) hm
              obtain ⟨v', w', hrun, hrow, hh, hblk, hos, htp, hout, hsz, hsl⟩ := run_append_row (P := P) (ty := o.type) (v := .slice A 0 0) (n := 0) (us := []) hU hk hr ⟨by simp, .inl ⟨rfl, A, rfl⟩⟩ rfl hsrc (by simpa using hb) (by simpa using hm2)
              have hno : ∀ b, blockOf (.slice A 0 0) ≠ some b := fun b hb' => by cases A <;> simp [blockOf] at hb'
              obtain ⟨c', q1, q2, q3⟩ := newRow_does (nx := nx) (el := el) (t := T) (l := m) (v := v') (us := news) (w' := w') hR (isFresh_none hc1)
                (fun b hb' => hh b hb' (hno b)) hos htp hout hsz (by rw [hc3]; simpa using hrow) (fun b hb' => (hblk b hb').elim (fun h => (hno b h).elim) id) hcat
              refine ⟨c', w', v', .inl ?_, q1, by simp only [VR]; exact ⟨q2, hsl⟩, q3⟩
              simp [execOp, ho, resolve, invoke, builtin, ex, hrun]
            · cases h
          · cases h
        · cases h
      · cases h
    · cases h
  · cases h
end
end Go.Hay
