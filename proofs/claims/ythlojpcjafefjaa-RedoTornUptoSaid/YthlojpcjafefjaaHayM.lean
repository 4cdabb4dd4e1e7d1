/- Bytes of a string; all operations that make or write memory of ours; what operations look at. -/
import Derived.Laws.MakeOwn
import Derived.Test.YthlojpcjafefjaaHayL
import Derived.Carry
set_option linter.unusedVariables false
set_option linter.unusedSimpArgs false
namespace Go.Hay
open Go.RowKit
section
variable {P : Program} {U : TEnv} {B : Bs} {c : Cf} {w : World} {s : Obs} {nx : Nat} {ρ : Operand → Option AV} {e : Operand → Value}

theorem freeze_heap (w : World) (a : Addr) (n k : Nat) : (w.freeze a n).heap[k]? = (w.heap[k]?).map fun o => if n = 0 then o else if k = a.block then (match o with
      | .cells c elem (lo, hi) => .cells c elem (if lo == hi then (a.off, a.off + n) else (min lo a.off, max hi (a.off + n)))
      | o => o) else o := by
  unfold World.freeze
  split
  · simp
  · simp only [Array.getElem?_modify]
    by_cases h : a.block = k
    · subst h
      simp only [if_true]
      cases w.heap[a.block]? with
      | none => rfl
      | some o => cases o <;> rfl
    · have : ¬ k = a.block := fun e => h e.symm
      simp only [h, if_false, this]
      cases w.heap[k]? <;> rfl

theorem eBytes_ok [Sites] (hU : U.Ok P) {o : Oper} {src dst : TypeId} {x : Operand} (ho : o.op = .convert src dst x) {v : AV} {s1 : Obs} {n1 : Nat} (h : eBytes U s nx (U src) (U dst) (ρ x) = some (v, s1, n1, true)) (hR : Rel B c s w) (hρ : Ops.Ok c w ρ e) : Does P B c w (execOp e o) v s1 := by
  unfold eBytes at h
  split at h
  · rename_i el l hs hd hx
    split at h
    · rename_i he
      split at h
      · rename_i hf
        have u1 := (hU src (by simp [hs])).1
        have u2 := (hU dst (by simp [hd])).1
        have u3 := (hU el (by simp [he])).1
        simp only [TD.kindOk, hs] at u1
        simp only [TD.kindOk, hd] at u2
        simp only [TD.kindOk, he] at u3
        have h1 := hρ _ _ hx
        simp only [VR] at h1
        simp only [Option.some.injEq, Prod.mk.injEq] at h
        obtain ⟨rfl, rfl, _⟩ := h
        have hfr := isFresh_none hf
        have hnone := hR.dom nx hfr
        have hsz : (⟨l.toArray⟩ : ByteArray).size = l.length := by simp [ByteArray.size]
        have hge := grownCap_ge w l.length 0 el
        have hcm := grownCap_le_maxLen w l.length 0 el h1.2
        let arr : Array Value := (l.toArray.map fun b => Value.int .u8 b.toNat) ++ Array.replicate (grownCap w l.length 0 el - l.length) (.int .u8 0)
        let w1 := w.drew.alloc (.cells arr el)
        let w2 := w1.freeze ⟨w.heap.size, arr.size, none⟩ 1
        have hold : ∀ b, b < w.heap.size → w2.heap[b]? = w.heap[b]? := fun b hb => by
          have hne : ¬ b = w.heap.size := by omega
          simp only [w2, freeze_heap, hne, if_false]
          have : w1.heap[b]? = w.heap[b]? := heap_alloc_old w.drew _ b hb
          rw [this]
          cases w.heap[b]? <;> simp
        have hnew : ∃ f, w2.heap[w.heap.size]? = some (.cells arr el f) := by
          have : w1.heap[w.heap.size]? = some (.cells arr el) := heap_alloc_new w.drew _
          simp only [w2, freeze_heap, this, Option.map_some]
          exact ⟨_, rfl⟩
        obtain ⟨f, hnew⟩ := hnew
        have hsize2 : w2.heap.size = w.heap.size + 1 := by simp [w2, World.freeze, w1]
        obtain ⟨g1, g2⟩ := hR.upd (c' := ⟨fun i => if i = nx then some (.slice (some ⟨w.heap.size, 0, none⟩) l.length (grownCap w l.length 0 el)) else c.nm i, fun b => c.I b ∨ b = w.heap.size⟩) (w' := w2) nx (.frow .byte l) (fun _ => False)
          (fun i u hv => by
            by_cases e : i = nx
            · subst e; rw [hnone] at hv; cases hv
            · simp [e, hv])
          (fun i hi => by simp [hi]) (fun _ h => .inl h) (fun b hb => by
            rcases hb with hb | rfl
            · exact .inl hb
            · exact .inr ⟨.inr (Nat.le_refl _), fun hh => hh, by omega⟩)
          (fun b hb _ => hold b hb) (fun _ h => h.elim)
          (fun hE => ⟨_, by simp, some ⟨w.heap.size, 0, none⟩, _, rfl, hge, hcm, (fun e => by cases e), fun ad ha _ => by
            cases ha
            refine ⟨rfl, .inr rfl, _, byte_cat l, fun j u hj => ?_⟩
            rw [cell_of_row w2 w.heap.size (0 + j) arr el f hnew, Nat.zero_add]
            have hj' : j < l.length := by have := (List.getElem?_eq_some_iff.1 hj).1; simpa using this
            have : arr[j]? = (l.toArray.map fun b => Value.int .u8 b.toNat)[j]? := by
              simp only [arr]
              rw [Array.getElem?_append_left (by simpa using hj')]
            rw [this]
            simpa using hj⟩)
          (fun b hb => hb.elim) rfl rfl rfl (by omega)
        refine ⟨_, w2, .slice (some ⟨w.heap.size, 0, none⟩) l.length (grownCap w l.length 0 el), .inl ?_, g1, by simp only [VR]; exact ⟨by simp, rfl⟩, g2⟩
        have hshape : w1.shape? w.heap.size = some (el, arr.size) := by
          have : w1.heap[w.heap.size]? = some (.cells arr el) := heap_alloc_new w.drew _
          simp [World.shape?, this]
        have hrun : (Conv.stringToBytes el ⟨l.toArray⟩).run P w = .ok (.slice (some ⟨w.heap.size, 0, none⟩) l.length (grownCap w l.length 0 el)) w2 := by
          have k1 : (choose (.appendCap l.length 0 el)).run P w = .ok (grownCap w l.length 0 el) w.drew := by
            simp [choose, Sem.run, Question.forced, grownCap]
          have k2 : (newRow el arr).run P w.drew = .ok ⟨w.heap.size, 0, none⟩ w1 := by
            simp [newRow, newObj, Sem.run, w1]; rfl
          have k3 : (markStringish ⟨w.heap.size, 0, none⟩).run P w1 = .ok () w2 := by
            simp only [markStringish, shape, Sem.run_bind, Sem.run, hshape, Result.andThen_ok, freeze]
            rfl
          have k4 : (⟨l.toArray⟩ : ByteArray).data = l.toArray := rfl
          simp only [Conv.stringToBytes, hsz, Sem.run_bind, k1, Result.andThen_ok, k4]
          rw [show (l.toArray.map fun b => Value.int .u8 b.toNat) ++ Array.replicate (grownCap w l.length 0 el - l.length) (.int .u8 0) = arr from rfl, k2]
          simp only [Result.andThen_ok, k3, Sem.run_pure]
        simp [execOp, ho, h1.1, convert, run_underlying u1, run_underlying u2, run_underlying u3, hrun]
      · cases h
    · cases h
  · cases h

theorem eMark_ok [Sites] (hU : U.Ok P) {o : Oper} {src dst : TypeId} {x : Operand} (ho : o.op = .convert src dst x) {v : AV} {s1 : Obs} {n1 : Nat} (h : eMark U s nx src dst (ρ x) = some (v, s1, n1, true)) (hR : Rel B c s w) (hρ : Ops.Ok c w ρ e) : Does P B c w (execOp e o) v s1 := by
  unfold eMark at h
  split at h
  · rename_i el hb hk
    have := Nat.eq_of_beq_eq_true hb
    subst this
    split at h
    · rename_i id he hx
      split at h
      · rename_i e' l hl
        split at h
        · rename_i hb2
          have := Nat.eq_of_beq_eq_true hb2
          subst this
          simp only [Option.some.injEq, Prod.mk.injEq, decide_eq_true_eq] at h
          obtain ⟨rfl, rfl, _, hpos⟩ := h
          have u1 := (hU src (by simp [hk])).1
          have u3 := (hU e' (by simp [he])).1
          simp only [TD.kindOk, hk] at u1
          simp only [TD.kindOk, he] at u3
          have h1 := hρ _ _ hx
          simp only [VR] at h1
          obtain ⟨v0, us, g1, g2, g3⟩ := hR.ob _ _ hl
          have ex : e x = v0 := by have := h1.1; rw [g1] at this; exact (Option.some.inj this).symm
          rcases g2.2 with ⟨h0, _⟩ | ⟨b, cap, cur, rfl, hcap, hnc, hcm, hg, hs, ht⟩ | ⟨b, es, q, rfl, _⟩
          rotate_left 2
          · rw [ex] at h1; cases h1.2
          · omega
          · have hown : Own c id (.row e' .byte l) b := (own_row g1).2 (by simp [blockOf]; omega)
            have hfree := hR.free hl hown
            let w2 := w.freeze ⟨b, cur.size, none⟩ 1
            have hold : ∀ k, k ≠ b → w2.heap[k]? = w.heap[k]? := fun k hk => by
              simp only [w2, freeze_heap, hk, if_false]
              cases w.heap[k]? <;> simp
            have hnew : ∃ f, w2.heap[b]? = some (.cells cur e' f) := by
              simp only [w2, freeze_heap, hg, Option.map_some]
              exact ⟨_, rfl⟩
            obtain ⟨f, hnew⟩ := hnew
            have hsize2 : w2.heap.size = w.heap.size := by simp [w2, World.freeze]
            have hlt : b < w.heap.size := (hR.ob _ _ hl).lt hown
            obtain ⟨q1, q2⟩ := hR.upd (c' := ⟨c.nm, fun k => c.I k ∨ k = b⟩) (w' := w2) id (.frow .byte l) (fun k => k = b) (fun _ _ h => h) (fun _ _ => rfl) (fun _ h => .inl h)
              (fun k hk => by
                rcases hk with hk | rfl
                · exact .inl hk
                · exact .inr ⟨.inl rfl, fun hh => hh, by omega⟩)
              (fun k _ hk => hold k hk) (fun k hk => by subst hk; exact hfree)
              (fun hE => ⟨_, g1, some ⟨b, 0, none⟩, cap, rfl, hnc, hcm, (fun e => by cases e), fun ad ha _ => by
                cases ha
                refine ⟨rfl, .inr rfl, us, Cat.lasts hE.lasts g3, fun j u hj => ?_⟩
                rw [cell_of_row w2 b (0 + j) cur e' f hnew, Nat.zero_add]
                rw [← ht, List.getElem?_take] at hj
                split at hj
                · simpa using hj
                · cases hj⟩)
              (fun k hk => hk.elim) rfl rfl rfl (by omega)
            have hshape : w.shape? b = some (e', cur.size) := by simp [World.shape?, hg]
            have k3 : (markStringish ⟨b, 0, none⟩).run P w = .ok () w2 := by
              simp only [markStringish, shape, Sem.run_bind, Sem.run, hshape, Result.andThen_ok, freeze]
              rfl
            refine ⟨_, w2, .slice (some ⟨b, 0, none⟩) l.length cap, .inl ?_, q1, by simp only [VR]; exact ⟨g1, rfl⟩, q2⟩
            simp [execOp, ho, ex, convert, run_underlying u1, run_underlying u3, k3]
        · cases h
      · cases h
    · cases h
  · cases h

theorem eConv_ok [Sites] (hU : U.Ok P) {o : Oper} {src dst : TypeId} {x : Operand} (ho : o.op = .convert src dst x) {v : AV} {s1 : Obs} {n1 : Nat} (h : eConv U s nx src dst (ρ x) = some (v, s1, n1, true)) (hR : Rel B c s w) (hρ : Ops.Ok c w ρ e) : Does P B c w (execOp e o) v s1 := by
  unfold eConv at h
  split at h
  · exact eBytes_ok hU ho h hR hρ
  · exact eMark_ok hU ho h hR hρ

theorem made_list (z : Array Value) (m n : Nat) (h : n ≤ m) : (madeCells z (m * z.size)).toList.take (n * z.size) = (List.replicate n z.toList).flatten := by
  have hf : ∀ n, (List.range (n * z.size)).map (fun i => z[i % z.size]!) = (List.replicate n z.toList).flatten := by
    intro n
    induction n with
    | zero => simp
    | succ n ih =>
      rw [Nat.succ_mul, Nat.add_comm, List.range_add, List.map_append, List.map_map, List.replicate_succ, List.flatten_cons]
      congr 1
      · apply List.ext_getElem
        · simp
        · intro i h1 h2
          simp only [List.length_map, List.length_range] at h1
          simp [Nat.mod_eq_of_lt h1, h1]
      · rw [← ih]
        apply List.map_congr_left
        intro i _
        simp
  rw [← hf n]
  unfold madeCells
  simp only [Array.toList_map, Array.toList_range, ← List.map_take, List.take_range]
  rw [Nat.min_eq_left (Nat.mul_le_mul_right _ h)]

theorem cat_rep {α : Type} {R : α → List Value → Prop} {x : α} {us : List Value} (h : R x us) : ∀ n : Nat, Cat R (List.replicate n x) (List.replicate n us).flatten
  | 0 => rfl
  | n + 1 => ⟨us, _, by rw [List.replicate_succ, List.flatten_cons], h, cat_rep h n⟩

theorem eMake_ok [Sites] (hU : U.Ok P) {o : Oper} {t : TypeId} {l cp : Operand} (ho : o.op = .makeSlice t l cp) {v : AV} {s1 : Obs} {n1 : Nat} (h : eMake U s nx t (ρ l) (ρ cp) = some (v, s1, n1, true)) (hR : Rel B c s w) (hρ : Ops.Ok c w ρ e) : Does P B c w (execOp e o) v s1 := by
  unfold eMake at h
  split at h
  · rename_i el hk
    have hu := (hU t (by simp [hk])).1
    simp only [TD.kindOk, hk] at hu
    split at h
    · rename_i T ka a kb b hr hT hl hc
      split at h
      · rename_i hf
        simp only [Bool.and_eq_true] at hf
        obtain ⟨f1, f2, f3⟩ := hf
        have f2 := Nat.eq_of_beq_eq_true f2
        simp only [Option.some.injEq, Prod.mk.injEq, Bool.and_eq_true, decide_eq_true_eq, room] at h
        obtain ⟨rfl, rfl, _, ⟨g1, g2⟩, g3, g4⟩ := h
        have h1 := hρ _ _ hl
        have h2 := hρ _ _ hc
        simp only [VR] at h1 h2
        obtain ⟨_, hinfo, hpos⟩ := real_ok hU hr
        unfold TD.infoOk at hinfo
        cases hi : P.info? el with
        | none => simp [hi] at hinfo
        | some i =>
          simp only [hi, Option.map_some, Option.some.injEq, Prod.mk.injEq] at hinfo
          obtain ⟨i1, i2, i3⟩ := hinfo
          cases hz : i.zero with
          | none => simp [hz] at i3
          | some z =>
            simp only [hz, Option.map_some, Option.some.injEq] at i3
            have hzs : z.cells.size = T.size := by rw [← Array.length_toList, i3, (real_zero hr).2, f2]
            have hbytes : (i.bytes : Int) * b ≤ 281474976710656 := by
              have : ((b.toNat * i.bytes : Nat) : Int) ≤ 140737488355328 := by rw [i2]; exact Int.ofNat_le.2 g3
              rw [Int.natCast_mul, Int.toNat_of_nonneg (by omega)] at this
              rw [Int.mul_comm]
              omega
            have hrun := run_make (P := P) w t el i z hu hi hz ka kb a b g1 g2 hbytes (by omega)
            have hsz : (madeCells z.cells (b.toNat * i.size)).size = b.toNat * T.size := by rw [size_madeCells, i1, f2]
            have hle : a.toNat ≤ b.toNat := by omega
            have hml : (madeCells z.cells (b.toNat * i.size)).toList.take (a.toNat * T.size) = (List.replicate a.toNat z.cells.toList).flatten := by
              rw [← hzs, i1, ← f2, ← hzs]
              exact made_list _ _ _ hle
            have hdz : TR c.I w T T.dflt z.cells.toList := by
              have := areZero_ok (I := c.I) (w := w) f3
              rw [i3]
              simp only [List.replicate_succ, List.replicate_zero, Cat] at this
              obtain ⟨x, y, e1, e2, e3⟩ := this
              subst e3
              rw [e1, List.append_nil]
              exact e2
            obtain ⟨c', k1, k2, k3⟩ := newRow_does (nx := nx) (el := el) (t := T) (l := List.replicate a.toNat T.dflt) (v := .slice (some ⟨w.heap.size, 0, none⟩) a.toNat b.toNat)
              (us := (madeCells z.cells (b.toNat * i.size)).toList.take (a.toNat * T.size)) (w' := w.alloc (.cells (madeCells z.cells (b.toNat * i.size)) el)) hR (isFresh_none f1)
              (fun b hb => Below.heap_alloc w _ b hb) rfl rfl rfl (by simp)
              ⟨by rw [List.length_take, Array.length_toList, hsz, List.length_replicate]; exact Nat.min_eq_left (Nat.mul_le_mul_right _ hle), by
                rw [List.length_replicate]
                by_cases hb0 : b.toNat = 0
                · left
                  have ha0 : a.toNat = 0 := by omega
                  exact ⟨ha0, _, by rw [ha0, hb0]⟩
                · right
                  left
                  exact ⟨w.heap.size, b.toNat, _, rfl, by omega, hle, by unfold maxLen; omega, heap_alloc_new w _, hsz, rfl⟩⟩
              (fun b hb => by simp [blockOf] at hb; omega) (by rw [hml]; exact cat_rep hdz _)
            refine ⟨c', _, _, .inl ?_, k1, by simp only [VR]; exact ⟨k2, rfl⟩, k3⟩
            simp [execOp, ho, h1.1, h2.1, hrun]
      · cases h
    · cases h
  · cases h

theorem eZeros_ok [Sites] (hU : U.Ok P) {o : Oper} {t t' : TypeId} {x y : Operand} (ho : o.op = .call { callee := .builtin .append, args := #[x, y], argTypes := #[t, t'] }) {v : AV} {s1 : Obs} {n1 : Nat}
    (h : eZeros U s nx t t' (ρ x) (ρ y) = some (v, s1, n1, true)) (hR : Rel B c s w) (hρ : Ops.Ok c w ρ e) : Does P B c w (execOp e o) v s1 := by
  unfold eZeros at h
  split at h
  · rename_i el k' ka a hk hk' hx hy
    have hu := (hU t (by simp [hk])).1
    simp only [TD.kindOk, hk] at hu
    have hu' := (hU t' (by simp [hk'])).1
    simp only [TD.kindOk, hk'] at hu'
    split at h
    · rename_i T hr hT
      split at h
      · rename_i hf
        simp only [Bool.and_eq_true] at hf
        obtain ⟨f1, f2, f3⟩ := hf
        have f2 := Nat.eq_of_beq_eq_true f2
        simp only [Option.some.injEq, Prod.mk.injEq, Bool.and_eq_true, decide_eq_true_eq] at h
        obtain ⟨rfl, rfl, _, g1, hroom⟩ := h
        obtain ⟨hb, hm⟩ := room_ok hroom
        have h1 := hρ _ _ hx
        have h2 := hρ _ _ hy
        simp only [VR] at h1 h2
        obtain ⟨A, ex⟩ := h1
        obtain ⟨m, rfl⟩ := Int.eq_ofNat_of_zero_le g1
        simp only [Int.toNat_natCast] at hb hm ⊢
        obtain ⟨_, hinfo, hpos⟩ := real_ok hU hr
        unfold TD.infoOk at hinfo
        cases hi : P.info? el with
        | none => simp [hi] at hinfo
        | some i =>
          simp only [hi, Option.map_some, Option.some.injEq, Prod.mk.injEq] at hinfo
          obtain ⟨i1, i2, i3⟩ := hinfo
          cases hz : i.zero with
          | none => simp [hz] at i3
          | some z =>
            simp only [hz, Option.map_some, Option.some.injEq] at i3
            have hzs : z.cells.size = T.size := by rw [← Array.length_toList, i3, (real_zero hr).2, f2]
            have hdz : TR c.I w T T.dflt z.cells.toList := by
              have := areZero_ok (I := c.I) (w := w) f3
              rw [i3]
              simp only [List.replicate_succ, List.replicate_zero, Cat] at this
              obtain ⟨x, y, e1, e2, e3⟩ := this
              subst e3
              rw [e1, List.append_nil]
              exact e2
            have hzc : (Builtin.zeroCells z.cells m).toList = (List.replicate m z.cells.toList).flatten := by
              have := made_list z.cells m m (Nat.le_refl _)
              rw [List.take_of_length_le (by rw [Array.length_toList, size_madeCells]; exact Nat.le_refl _)] at this
              exact this
            have hzsz : (Builtin.zeroCells z.cells m).size = m * T.size := by rw [size_zeroCells, hzs]
            have wl : IntKind.i64.wrap (m : Int) = m := by rw [IntKind.wrap_i64]; omega
            have hsz : (sizeOf el).run P w = .ok (U el).size w := by simp [sizeOf, typeInfo, hi, i1]
            have hsz' : (sizeOf el).run P w.drew = .ok (U el).size w.drew := by simp [sizeOf, typeInfo, hi, i1]
            have n1 : ¬ ((m : Int) < 0) := by omega
            have n2 : ¬ (281474976710656 < (m : Int) * (i.bytes : Int)) := by
              have : ((m * i.bytes : Nat) : Int) ≤ 140737488355328 := by rw [i2]; exact Int.ofNat_le.2 hb
              rw [Int.natCast_mul] at this
              omega
            rcases Nat.eq_zero_or_pos m with rfl | hmp
            · obtain ⟨c', k1, k2, k3⟩ := newRow_does (nx := nx) (el := el) (t := T) (l := ([] : List T.den)) (v := .slice A 0 0) (us := []) (w' := w) hR (isFresh_none f1)
                (fun _ _ => rfl) rfl rfl rfl (Nat.le_refl _) ⟨by simp, .inl ⟨rfl, A, rfl⟩⟩ (fun b hb => by cases A <;> simp [blockOf] at hb) rfl
              refine ⟨c', w, .slice A 0 0, .inl ?_, k1, by simp only [VR]; exact ⟨k2, rfl⟩, k3⟩
              have h2' : e y = .int ka 0 := h2.1
              cases A <;> simp [execOp, ho, resolve, invoke, builtin, ex, h2', Builtin.append_, run_underlying hu, run_underlying hu', hsz, asInt, asIntOf, IntKind.wrap_i64, typeInfo, hi, storeCells]
            · have hge := grownCap_ge w m 0 el
              have hcm := grownCap_le_maxLen w m 0 el (by unfold maxLen; omega)
              have hb0 : (0 + m) * (U el).bytes ≤ 140737488355328 := by rw [Nat.zero_add]; exact hb
              have hfit := growslice_fits (old := 0) (show 0 < 0 + m by omega) hb0
              rw [Nat.zero_add] at hfit
              have h48 : ¬ (281474976710656 < Builtin.nextslicecap m 0 * i.bytes) := by rw [i2]; omega
              have hne : ¬ (m * (U el).size = 0) := by
                rw [← f2] at hpos ⊢
                exact Nat.ne_of_gt (Nat.mul_pos hmp hpos)
              have hall : (Builtin.zeroCells z.cells m ++ Builtin.zeroCells z.cells (grownCap w m 0 el - m)).size = grownCap w m 0 el * T.size := by
                rw [Array.size_append, size_zeroCells, size_zeroCells, hzs, ← Nat.add_mul]
                congr 1
                omega
              obtain ⟨c', k1, k2, k3⟩ := newRow_does (nx := nx) (el := el) (t := T) (l := List.replicate m T.dflt) (v := .slice (some ⟨w.heap.size, 0, none⟩) m (grownCap w m 0 el))
                (us := (Builtin.zeroCells z.cells m).toList) (w' := w.drew.alloc (.cells (Builtin.zeroCells z.cells m ++ Builtin.zeroCells z.cells (grownCap w m 0 el - m)) el)) hR (isFresh_none f1)
                (fun b hb => heap_alloc_old w.drew _ b hb) rfl rfl rfl (by simp)
                ⟨by rw [Array.length_toList, hzsz, List.length_replicate], .inr <| .inl ⟨w.heap.size, grownCap w m 0 el, _, by rw [List.length_replicate], by omega, by rw [List.length_replicate]; exact hge, hcm, heap_alloc_new w.drew _, hall, by
                  rw [List.length_replicate, Array.toList_append, ← hzsz, ← Array.length_toList]
                  exact List.take_left⟩⟩
                (fun b hb => by simp [blockOf] at hb; omega) (by rw [hzc]; exact cat_rep hdz _)
              refine ⟨c', _, _, .inl ?_, k1, by simp only [VR]; exact ⟨k2, rfl⟩, k3⟩
              have hn : ¬ (m ≤ 0) := by omega
              have hm0 : ¬ (m = 0) := by omega
              have h63 : ¬ (9223372036854775807 < (m : Int)) := by omega
              cases A <;> simp [execOp, ho, resolve, invoke, builtin, ex, h2.1, Builtin.append_, run_underlying hu, run_underlying hu', hsz, hsz', asInt, asIntOf, wl, n1, n2, hm0, typeInfo, hi, hn, h63, h48, hne, Question.forced, Builtin.firstCells, loadCells, loadCellsFrom, zeroValue, hz, newRow, newObj, Sem.run, grownCap]
      · cases h
    · cases h
  · cases h

theorem eMakeMap_ok [Sites] (hU : U.Ok P) {o : Oper} {t : TypeId} (ho : o.op = .makeMap t none) {v : AV} {s1 : Obs} {n1 : Nat} (h : eMakeMap U s nx t = some (v, s1, n1, true)) (hR : Rel B c s w) : Does P B c w (execOp e o) v s1 := by
  unfold eMakeMap at h
  split at h
  · rename_i kt et agg hkk
    split at h
    · rename_i E hkt hE
      split at h
      · rename_i hc
        simp only [Bool.and_eq_true] at hc
        obtain ⟨⟨c1, c2⟩, c3, c4⟩ := hc
        simp only [Option.some.injEq, Prod.mk.injEq] at h
        obtain ⟨rfl, rfl, _⟩ := h
        have hmt : isMapTy (bif agg then 3000000 else 2000000) = true := by cases agg <;> rfl
        obtain ⟨c', g1, g2, g3⟩ := newRow_does (nx := nx) (el := (bif agg then 3000000 else 2000000)) (t := .pair .str E) (l := []) (v := .map (some w.heap.size)) (us := []) (w' := w.alloc (.map #[] 0)) hR (isFresh_none c1)
          (fun b hb => Below.heap_alloc w _ b hb) rfl rfl rfl (by simp)
          ⟨by simp, .inr (.inr ⟨w.heap.size, #[], 0, rfl, heap_alloc_new w _, rfl, ⟨by simp, by simp, by simp, MapKept.stamped_empty 0⟩, hmt⟩)⟩
          (fun b hb => by simp [blockOf] at hb; omega) rfl
        exact ⟨c', _, .map (some w.heap.size), .inl (by simp [execOp, ho, run_makeMap]), g1, by simp only [VR]; exact ⟨_, g2, rfl⟩, g3⟩
      · cases h
    · cases h
  · cases h

/-- The entries of a map of ours are others. -/
theorem mapSet_rel [Sites] (h : Rel B c s w) {id b : Nat} {el : TypeId} {E : Ty} {l l' : List (Ty.pair .str E).den} (hl : look s id = some (.row el (.pair .str E) l)) (hn : c.nm id = some (.map (some b))) {es es' : Array MapEntry} {clock clock' : Nat}
    (hb : w.heap[b]? = some (.map es clock)) (h2 : MapKept.Stamped es' clock') (h3 : EntR c.I w (mapAgg el) E l' es'.toList) (h4 : isMapTy el = true) :
    Rel B c (put s id (.row el (.pair .str E) l')) { w with heap := w.heap.setIfInBounds b (.map es' clock') } ∧ Ext c w c { w with heap := w.heap.setIfInBounds b (.map es' clock') } := by
  have hown : Own c id (.row el (.pair .str E) l) b := ⟨_, hn, rfl⟩
  have hheap := MapKept.heap_set (o' := .map es' clock') hb
  refine h.upd id (.row el (.pair .str E) l') (fun k => k = b) (fun _ _ h => h) (fun _ _ => rfl) (fun _ h => h) (fun _ h => .inl h) (fun k _ hk => hheap.2 k hk) (fun k hk => by subst hk; exact h.free hl hown) (fun hE => ?_) (fun k hk => ?_) rfl rfl rfl (by simp)
  · exact ents_map hn hheap.1 h2 (h3.lasts hE.lasts) h4
  · obtain ⟨v, h5, h6⟩ := hk
    rw [hn] at h5
    simp only [Option.some.injEq] at h5
    subst h5
    simp only [blockOf, Option.some.injEq] at h6
    exact .inl h6.symm

theorem agg_val {E : Ty} {x : AV} {u : Value} (ha : aggOk E x = true) (h1 : allOne x.cells = true) (hv : VR c w x u) : isAggV u = E.isAgg := by
  have other : x.cells = [x] → (!E.isAgg) = true → isAggV u = E.isAgg := fun hx hE => by
    rw [hx] at h1
    have h2 : u.oneCell' = true := one_ok (by simpa [allOne] using h1) hv
    have h3 : E.isAgg = false := by simpa using hE
    rw [h3]
    cases u <;> first | rfl | (simp [Value.oneCell'] at h2)
  cases x with
  | agg cs =>
    simp only [VR] at hv
    obtain ⟨us, rfl, _⟩ := hv
    simp only [aggOk] at ha
    rw [ha]
    rfl
  | _ => exact other rfl ha

theorem eMapUpdate_ok [Sites] (hU : U.Ok P) {o : Oper} {t : TypeId} {m k y : Operand} (ho : o.op = .mapUpdate t m k y) {v : AV} {s1 : Obs} {n1 : Nat} (h : eMapUpdate U s nx t (ρ m) (ρ k) (ρ y) = some (v, s1, n1, true)) (hR : Rel B c s w) (hρ : Ops.Ok c w ρ e) : Does P B c w (execOp e o) v s1 := by
  unfold eMapUpdate at h
  split at h
  · rename_i kt et agg hkk
    have hu := (hU t (by simp [hkk])).1
    simp only [TD.kindOk, hkk] at hu
    split at h
    · rename_i id key x hkt hm hk hy
      have hkd := (hU kt (by simp [hkt])).1
      simp only [TD.kindOk, hkt] at hkd
      have hm' := hρ _ _ hm
      have hk' := hρ _ _ hk
      simp only [VR] at hm' hk'
      obtain ⟨b, hn, hm'⟩ := hm'
      split at h
      · rename_i e' E l hl
        split at h
        · rename_i y' hmk
          split at h
          · rename_i hc
            simp only [Bool.and_eq_true] at hc
            obtain ⟨c1, c2, c3⟩ := hc
            have c1 := beqB_eq c1
            simp only [Option.some.injEq, Prod.mk.injEq] at h
            obtain ⟨rfl, rfl, _⟩ := h
            obtain ⟨I1, hR1, hE1⟩ := frz_ok x.cells hR
            have hv1 := VR.ext hE1 _ _ (hρ _ _ hy)
            have hcv := cells_ok c3 hv1
            have htr := mk1_ok hR1.obs hmk hcv
            have hag := agg_val c2 c3 hv1
            obtain ⟨es, clock, hb, hst, hE, hmt⟩ := map_ents (hR1.obs _ _ hl) hn
            have hik : MapKept.IsKey .string (.string ⟨key.toArray⟩) := trivial
            rcases MapKept.findNow_spec hik es.toList 0 (EntR.key hE) with ⟨h1, h2⟩ | ⟨j, x0, h1, h2, h3⟩
            · obtain ⟨_, _, g3, _⟩ := hE.miss h2
              have hE' := hE.push (b := clock) hk'.2 htr (by rw [hag, c1])
              rw [← g3] at hE'
              obtain ⟨q1, q2⟩ := mapSet_rel (es' := es.push ⟨.string ⟨key.toArray⟩, e y, clock⟩) (clock' := clock + 1) hR1 hl hn hb (MapKept.stamped_push hst h2) (by simpa using hE') hmt
              refine ⟨_, _, undef, .inr ⟨?_, rfl⟩, q1, by simp only [VR], hE1.trans q2⟩
              simp [execOp, ho, hm', hk'.1, Instr.mapUpdate, run_underlying hu.1, MapKept.run_getObj_map hb, MapKept.run_checkKey hkd hik, MapKept.run_findKey hkd h1, MapKept.run_setObj_map _ hb, Result.andThen]
            · obtain ⟨_, _, _, _, g5, _⟩ := hE.hit ((MapKept.stamped_iff es clock).1 hst).2.2 h2 h3
              have hE' := g5 y' (e y) htr (by rw [hag, c1])
              have hj : es[j]? = some x0 := by simpa using h2
              obtain ⟨q1, q2⟩ := mapSet_rel (es' := es.modify j fun e1 => { e1 with key := .string ⟨key.toArray⟩, val := e y }) (clock' := clock) hR1 hl hn hb (MapKept.stamped_modify hst _ _ (fun _ _ => rfl) (fun x hx hxj => by rw [hj] at hxj; cases hxj; exact h3.symm)) (by simpa using hE') hmt
              refine ⟨_, _, undef, .inr ⟨?_, rfl⟩, q1, by simp only [VR], hE1.trans q2⟩
              simp [execOp, ho, hm', hk'.1, Instr.mapUpdate, run_underlying hu.1, MapKept.run_getObj_map hb, MapKept.run_checkKey hkd hik, MapKept.run_findKey hkd h1, hj, h3, MapKept.run_keyThatStays hik, MapKept.run_setObj_map _ hb, Result.andThen]
          · cases h
        · cases h
      · cases h
    · cases h
  · cases h

theorem eDelete_ok [Sites] (hU : U.Ok P) {o : Oper} {args : Array Operand} {t : TypeId} {tr : List TypeId} {ts : Array TypeId} {m k : Operand} (ho : o.op = .call { callee := .builtin .delete, args := args, argTypes := ts }) (hargs : args = #[m, k]) (hts : ts.toList = t :: tr) {v : AV} {s1 : Obs} {n1 : Nat} (h : eDelete U s nx t (ρ m) (ρ k) = some (v, s1, n1, true)) (hR : Rel B c s w) (hρ : Ops.Ok c w ρ e) : Does P B c w (execOp e o) v s1 := by
  unfold eDelete at h
  split at h
  · rename_i kt et agg hkk
    have hu := (hU t (by simp [hkk])).1
    simp only [TD.kindOk, hkk] at hu
    split at h
    · rename_i id key hkt hm hk
      have hkd := (hU kt (by simp [hkt])).1
      simp only [TD.kindOk, hkt] at hkd
      have hm' := hρ _ _ hm
      have hk' := hρ _ _ hk
      simp only [VR] at hm' hk'
      obtain ⟨b, hn, hm'⟩ := hm'
      split at h
      · rename_i e' E l hl
        simp only [Option.some.injEq, Prod.mk.injEq] at h
        obtain ⟨rfl, rfl, _⟩ := h
        obtain ⟨es, clock, hb, hst, hE, hmt⟩ := map_ents (hR.obs _ _ hl) hn
        have hik : MapKept.IsKey .string (.string ⟨key.toArray⟩) := trivial
        have ht0 : ts[0]? = some t := by rw [← Array.getElem?_toList, hts]; rfl
        rcases MapKept.findNow_spec hik es.toList 0 (EntR.key hE) with ⟨h1, h2⟩ | ⟨j, x0, h1, h2, h3⟩
        · obtain ⟨_, _, _, g4⟩ := hE.miss h2
          obtain ⟨q1, q2⟩ := mapSet_rel (l' := mapDel l key) (es' := es) (clock' := clock) hR hl hn hb hst (by rw [g4]; exact hE) hmt
          refine ⟨_, _, .tuple #[], .inl ?_, q1, by simp only [VR, VRs]; exact ⟨[], rfl, rfl⟩, q2⟩
          simp [execOp, ho, hargs, hm', hk'.1, resolve, invoke, builtin, ht0, Builtin.delete_, run_underlying hu.1, MapKept.run_getObj_map hb, MapKept.run_checkKey hkd hik, MapKept.run_findKey hkd h1, MapKept.run_setObj_map _ hb, Result.andThen]
        · obtain ⟨_, _, _, _, _, g6⟩ := hE.hit ((MapKept.stamped_iff es clock).1 hst).2.2 h2 h3
          have hj : j < es.size := by
            have := (List.getElem?_eq_some_iff.1 h2).1
            simpa using this
          obtain ⟨q1, q2⟩ := mapSet_rel (es' := es.eraseIdxIfInBounds j) (clock' := clock) hR hl hn hb (MapKept.stamped_erase hst j) (by simpa [Array.eraseIdxIfInBounds, hj] using g6) hmt
          refine ⟨_, _, .tuple #[], .inl ?_, q1, by simp only [VR, VRs]; exact ⟨[], rfl, rfl⟩, q2⟩
          simp [execOp, ho, hargs, hm', hk'.1, resolve, invoke, builtin, ht0, Builtin.delete_, run_underlying hu.1, MapKept.run_getObj_map hb, MapKept.run_checkKey hkd hik, MapKept.run_findKey hkd h1, MapKept.run_setObj_map _ hb, Result.andThen]
      · cases h
    · cases h
  · cases h

/-- Every operation that makes or writes memory of ours. -/
theorem evalE_ok [Sites] (hU : U.Ok P) {o : Oper} {v : AV} {s1 : Obs} {n1 : Nat} (h : evalE U ρ s nx o.op = some (v, s1, n1, true)) (hR : Rel B c s w) (hρ : Ops.Ok c w ρ e) : Does P B c w (execOp e o) v s1 := by
  unfold evalE at h
  split at h
  · rename_i ho; exact eAlloc_ok hU ho h hR
  · rename_i ho; exact eBox_ok ho h hR hρ
  · rename_i ho; exact eBuildSlice_ok hU ho h hR hρ
  · rename_i ho; exact eStore_ok hU ho h hR hρ
  · rename_i ho; exact eConv_ok hU ho h hR hρ
  · rename_i ho; exact eMake_ok hU ho h hR hρ
  · rename_i ho; exact eMakeMap_ok hU ho h hR
  · rename_i ho; exact eMapUpdate_ok hU ho h hR hρ
  · rename_i args ts ho
    split at h
    · rename_i m k t tr h1 h2
      exact eDelete_ok hU ho (args_two h1) h2 h hR hρ
    · cases h
  · rename_i args ts ho
    split at h
    · rename_i x y t t' h1 h2
      have := args_two h1
      subst this
      have ht : ts = #[t, t'] := by apply Array.toList_inj.1; simpa using h2
      subst ht
      split at h
      · rename_i r hr
        simp only [Option.some.injEq] at h
        subst h
        exact eAppend_ok hU ho hr hR hρ
      · exact eZeros_ok hU ho h hR hρ
    · cases h
  · cases h

theorem map_rho {ρ ρ' : Operand → Option AV} {l : List Operand} (h : ∀ x ∈ l, ρ x = ρ' x) : l.map ρ = l.map ρ' := List.map_congr_left h
theorem opt_rho {ρ ρ' : Operand → Option AV} {l : Option Operand} (h : ∀ x ∈ l.toArray, ρ x = ρ' x) : l.map ρ = l.map ρ' := by
  cases l with
  | none => rfl
  | some x => simp [h x (by simp)]
theorem parts_rho {ρ ρ' : Operand → Option AV} {l : List (Nat × Operand)} (h : ∀ x ∈ (l.map (·.2)).toArray, ρ x = ρ' x) : evParts ρ l = evParts ρ' l := by
  unfold evParts
  refine List.map_congr_left fun p hp => ?_
  rw [h p.2 (by simp only [List.mem_toArray, List.mem_map]; exact ⟨p, hp, rfl⟩)]

theorem vBuiltin_rho {ρ ρ' : Operand → Option AV} {lk : Lk} {b : Builtin} {args : List Operand} {ts : List TypeId} (h : ∀ x ∈ args, ρ x = ρ' x) : vBuiltin U ρ lk b args ts = vBuiltin U ρ' lk b args ts := by
  unfold vBuiltin
  split
  · rw [h _ (by simp)]
  · rw [h _ (by simp)]
  · rw [h _ (by simp), h _ (by simp)]
  · rw [h _ (by simp), h _ (by simp)]
  · rfl

/-- What operations look at: their operands. -/
theorem evalV_rho [Sites] {ρ ρ' : Operand → Option AV} {lk : Lk} (o : Op) (h : ∀ x ∈ o.operands, ρ x = ρ' x) : evalV U ρ lk o = evalV U ρ' lk o := by
  unfold evalV
  split
  case h_1 => rw [h _ (by simp [Op.operands])]
  case h_2 => rw [h _ (by simp [Op.operands])]
  case h_3 => rw [h _ (by simp [Op.operands]), h _ (by simp [Op.operands]), h _ (by simp [Op.operands])]
  case h_4 => rw [h _ (by simp [Op.operands]), h _ (by simp [Op.operands])]
  case h_5 => rw [h _ (by simp [Op.operands])]
  case h_6 => rw [h _ (by simp [Op.operands])]
  case h_7 => rw [h _ (by simp [Op.operands])]
  case h_8 => rw [h _ (by simp [Op.operands])]
  case h_9 => rw [h _ (by simp [Op.operands])]
  case h_10 => rw [h _ (by simp [Op.operands]), h _ (by simp [Op.operands])]
  case h_11 => rw [h _ (by simp [Op.operands]), h _ (by simp [Op.operands])]
  case h_12 => rw [h _ (by simp [Op.operands])]
  case h_13 => rw [h _ (by simp [Op.operands]), h _ (by simp [Op.operands])]
  case h_14 => rw [h _ (by simp [Op.operands])]
  case h_15 lo hi mx =>
    rw [h _ (by simp [Op.operands]), opt_rho (l := lo) fun x hx => h x (by simp only [Op.operands, Array.mem_append]; exact .inl (.inl (.inr hx))),
      opt_rho (l := hi) fun x hx => h x (by simp only [Op.operands, Array.mem_append]; exact .inl (.inr hx)), opt_rho (l := mx) fun x hx => h x (by simp only [Op.operands, Array.mem_append]; exact .inr hx)]
  case h_16 => rw [parts_rho fun x hx => h x (by simpa [Op.operands] using hx)]
  case h_17 => rw [map_rho fun x hx => h x (by simp only [Op.operands, Array.mem_append]; exact .inl (by simpa using hx)), map_rho fun x hx => h x (by simp only [Op.operands, Array.mem_append]; exact .inr (by simpa using hx))]
  case h_18 => exact vBuiltin_rho fun x hx => h x (by simpa [Op.operands, Call.operands] using hx)
  case h_19 => rfl

theorem evalE_rho [Sites] {ρ ρ' : Operand → Option AV} (o : Op) (h : ∀ x ∈ o.operands, ρ x = ρ' x) : evalE U ρ s nx o = evalE U ρ' s nx o := by
  unfold evalE
  split
  case h_1 => rfl
  case h_2 => rw [h _ (by simp [Op.operands])]
  case h_3 => rw [parts_rho fun x hx => h x (by simpa [Op.operands] using hx)]
  case h_4 => rw [h _ (by simp [Op.operands]), h _ (by simp [Op.operands])]
  case h_5 => rw [h _ (by simp [Op.operands])]
  case h_6 => rw [h _ (by simp [Op.operands]), h _ (by simp [Op.operands])]
  case h_7 => rfl
  case h_8 => rw [h _ (by simp [Op.operands]), h _ (by simp [Op.operands]), h _ (by simp [Op.operands])]
  case h_9 args ts =>
    split
    · rename_i x y t tr h1 h2
      have hm : ∀ z ∈ args, ρ z = ρ' z := fun z hz => h z (by simpa [Op.operands, Call.operands] using hz)
      rw [hm x (by rw [← Array.mem_toList_iff, h1]; simp), hm y (by rw [← Array.mem_toList_iff, h1]; simp)]
    · rfl
  case h_10 args ts =>
    split
    · rename_i x y t t' h1 h2
      have hm : ∀ z ∈ args, ρ z = ρ' z := fun z hz => h z (by simpa [Op.operands, Call.operands] using hz)
      rw [hm x (by rw [← Array.mem_toList_iff, h1]; simp), hm y (by rw [← Array.mem_toList_iff, h1]; simp)]
    · rfl
  case h_11 => rfl

section
variable {lk lk' : Lk}
theorem listOf_lk {t : Ty} {x : AV} (h : ∀ i ∈ x.ids, lk i = lk' i) : listOf lk t x = listOf lk' t x := by
  cases x <;> simp only [listOf] <;> rw [h _ (by simp [AV.ids])]
theorem lenOf_lk {x : AV} (h : ∀ i ∈ x.ids, lk i = lk' i) : lenOf lk x = lenOf lk' x := by
  cases x <;> simp only [lenOf] <;> rw [h _ (by simp [AV.ids])]
theorem vConv_lk [Sites] {a b : TD} {x : Option AV} (h : ∀ i ∈ idsO x, lk i = lk' i) : vConv U lk a b x = vConv U lk' a b x := by
  unfold vConv
  split
  · rfl
  · rfl
  · rw [listOf_lk (by simpa [idsO] using h)]
  · rfl
theorem vIndexAddr_lk {d : TD} {x i : Option AV} (h : ∀ i ∈ idsO x, lk i = lk' i) : vIndexAddr U lk d x i = vIndexAddr U lk' d x i := by
  cases x with
  | none => rfl
  | some x => cases x <;> simp only [vIndexAddr] <;> rw [h _ (by simp [idsO, AV.ids])]
theorem vLoad_lk {d : TD} {x : Option AV} (h : ∀ i ∈ idsO x, lk i = lk' i) : vLoad lk d x = vLoad lk' d x := by
  cases x with
  | none => rfl
  | some x => cases x <;> simp only [vLoad] <;> rw [h _ (by simp [idsO, AV.ids])]
theorem vLookup_lk [Sites] {d : TD} {x k : Option AV} {cm : Bool} (h : ∀ i ∈ idsO x, lk i = lk' i) : vLookup U lk d x k cm = vLookup U lk' d x k cm := by
  unfold vLookup
  cases d.k with
  | map kt et agg =>
    simp only
    cases (U kt).k with
    | string =>
      cases x with
      | none => rfl
      | some x =>
        cases x with
        | mp id => cases k with
          | none => rfl
          | some k => cases k with
            | str s => simp only [h id (by simp [idsO, AV.ids])]
            | _ => rfl
        | _ => rfl
    | _ => rfl
  | _ => rfl
theorem vLen_lk [Sites] {d : TD} {x : Option AV} (h : ∀ i ∈ idsO x, lk i = lk' i) : vLen lk d x = vLen lk' d x := by
  cases x with
  | none => rfl
  | some x => simp only [vLen]; rw [lenOf_lk h]
theorem obOf_lk {x : Option AV} (h : ∀ i ∈ idsO x, lk i = lk' i) : obOf lk x = obOf lk' x := by
  cases x with
  | none => rfl
  | some x => cases x <;> simp only [obOf] <;> rw [h _ (by simp [idsO, AV.ids])]
end

/-- What reading operations look at: objects that their operands lead to at once. -/
theorem evalV_lk [Sites] {lk lk' : Lk} (o : Op) (h : ∀ i ∈ foot ρ o, lk i = lk' i) : evalV U ρ lk o = evalV U ρ lk' o := by
  have hx : looks o = true → ∀ x ∈ o.operands, ∀ i ∈ idsO (ρ x), lk i = lk' i := fun hl x hx i hi => h i (by
    unfold foot
    rw [hl]
    exact List.mem_flatMap.2 ⟨x, Array.mem_toList_iff.2 hx, hi⟩)
  unfold evalV
  split
  case h_6 => rw [vConv_lk (hx rfl _ (by simp [Op.operands]))]
  case h_10 => rw [vIndexAddr_lk (hx rfl _ (by simp [Op.operands]))]
  case h_12 => rw [vLoad_lk (hx rfl _ (by simp [Op.operands]))]
  case h_13 => rw [vLookup_lk (hx rfl _ (by simp [Op.operands]))]
  case h_15 => rw [obOf_lk (hx rfl _ (by simp [Op.operands]))]
  case h_18 b args ts =>
    unfold vBuiltin
    split
    · rename_i x t r hal hts
      rw [vLen_lk (hx rfl x (by simp only [Op.operands, Call.operands, Array.mem_append]; right; rw [← Array.mem_toList_iff, hal]; simp))]
    all_goals rfl
  all_goals rfl
end
end Go.Hay
