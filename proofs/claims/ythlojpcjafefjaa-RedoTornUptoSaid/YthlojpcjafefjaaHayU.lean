/- Shapes, second part: what is taken stands for what is built. -/
import Derived.Test.YthlojpcjafefjaaHayT
set_option linter.unusedVariables false
set_option linter.unusedSimpArgs false
namespace Go.Hay
open Go.RowKit
section
variable {B : Bs} {c : Cf} {w : World} {s : Obs}

/-- What is built for a shape stands for what was taken. -/
def Blt [Sites] (c : Cf) (w : World) (sh : Sh) (x : sh.den) (n : Nat) (vs' : List Value) (I' : Nat → Prop) (z' : Tk) (u1 : List Value) : Prop :=
  ∀ (nm : Nat → Nat) (c' : Cf), Gives c' nm vs' → (∀ b, I' b → c'.I b) → (∀ i ∈ updIx sh, ∀ v, c.nm i = some v → c'.nm (nm (1000000 + i)) = some v) →
    VRs c' w (bld nm sh x n).1 u1 ∧ (bld nm sh x n).2.2 = vs'.length ∧
    (∀ i o0, (i, o0) ∈ (bld nm sh x n).2.1 → ∃ k, n ≤ k ∧ k < vs'.length ∧ i = nm k ∧ ObR c' w i o0 ∧ isLive o0 = true ∧
      ∀ v b, vs'[k]? = some v → blockOf v = some b → ∃ id o, z'.tk[k]? = some (some id, o) ∧ Own c id o b ∧ (isRo o0 = false → isRo o = false)) ∧
    ∀ k, n ≤ k → k < vs'.length → ∃ o0, (nm k, o0) ∈ (bld nm sh x n).2.1

theorem get_last {α : Type} (l : List α) (x : α) : (l ++ [x])[l.length]? = some x := by simp

theorem ro_row [Sites] {id : Nat} {e : TypeId} {t : Ty} {l : List t.den} {v : Value} {b : Nat} {o : Ob} (ho : rd o = .row e t l) (hn : c.nm id = some v) (hb : blockOf v = some b) : Own c id o b := by
  rw [← rd_own, ho]
  exact ⟨v, hn, hb⟩

/-- A row is taken. -/
theorem take_row [Sites] {I : Nat → Prop} {z : Tk} {vs : List Value} (h : TkOk B c s w I z vs) {id : Nat} {o : Ob} {e : TypeId} {t : Ty} {l : List t.den} (hl : look z.obs id = some o) (ho : rd o = .row e t l) (hv : isLive o = true) {u : Value} (hn : c.nm id = some u)
    {sh : Sh} (x : sh.den) (o1 : Ob) (ho1 : rd o1 = .row e t l) (hlive : isLive o1 = true) (hro : isRo o1 = false → isRo o = false) (avs : (Nat → Nat) → Nat → List AV) (ul : List Value) (hul : ∀ (c' : Cf) (nm : Nat → Nat) (k : Nat), c'.nm (nm k) = some u → VRs c' w (avs nm k) ul)
    (hb : ∀ nm n, bld nm sh x n = (avs nm n, [(nm n, o1)], n + 1)) :
    TkOk B c s w I ⟨put z.obs id .dead, z.tk ++ [(some id, o)], z.fz⟩ (vs ++ [u]) ∧ Blt c w sh x vs.length (vs ++ [u]) I ⟨put z.obs id .dead, z.tk ++ [(some id, o)], z.fz⟩ ul := by
  have htk := h.take hl hv hn
  refine ⟨htk, fun nm c' hg hI hkp => ?_⟩
  have hnm : c'.nm (nm vs.length) = some u := hg _ _ (get_last vs u)
  rw [hb]
  refine ⟨hul c' nm _ hnm, by simp, fun i o0 hm => ?_, fun k h1 h2 => ?_⟩
  · simp only [List.mem_singleton, Prod.mk.injEq] at hm
    obtain ⟨rfl, rfl⟩ := hm
    refine ⟨vs.length, Nat.le_refl _, by simp, rfl, ?_, hlive, fun v b hv hbl => ?_⟩
    · have h1 := h.rel.ob id o hl
      rw [← rd_obr, ho] at h1
      obtain ⟨v', us, h2, h3, h4⟩ := h1
      simp only at h2
      rw [hn] at h2
      simp only [Option.some.injEq] at h2
      subst h2
      rw [← rd_obr, ho1]
      exact ⟨u, us, hnm, h3, Cat.mono (fun _ _ hh => TR.lasts ⟨hI, fun _ _ => rfl⟩ hh) h4⟩
    · rw [get_last] at hv
      simp only [Option.some.injEq] at hv
      subst hv
      exact ⟨id, o, by simp only; rw [h.len, get_last], ro_row ho hn hbl, hro⟩
  · have : k = vs.length := by simp at h2; omega
    subst this
    exact ⟨o1, by simp⟩

theorem nils_row [Sites] {I : Nat → Prop} {z : Tk} {vs : List Value} (h : TkOk B c s w I z vs) {e : TypeId} {t : Ty} (A : Option Addr) (oz : Ob)
    {sh : Sh} (x : sh.den) (o1 : Ob) (ho1 : rd o1 = .row e t []) (hlive : isLive o1 = true) (avs : (Nat → Nat) → Nat → List AV) (ul : List Value) (hul : ∀ (c' : Cf) (nm : Nat → Nat) (k : Nat), c'.nm (nm k) = some (.slice A 0 0) → VRs c' w (avs nm k) ul)
    (hb : ∀ nm n, bld nm sh x n = (avs nm n, [(nm n, o1)], n + 1)) :
    TkOk B c s w I ⟨z.obs, z.tk ++ [(none, oz)], z.fz⟩ (vs ++ [.slice A 0 0]) ∧ Blt c w sh x vs.length (vs ++ [.slice A 0 0]) I ⟨z.obs, z.tk ++ [(none, oz)], z.fz⟩ ul := by
  refine ⟨h.nils oz A, fun nm c' hg hI hkp => ?_⟩
  have hnm : c'.nm (nm vs.length) = some (.slice A 0 0) := hg _ _ (get_last vs _)
  rw [hb]
  refine ⟨hul c' nm _ hnm, by simp, fun i o0 hm => ?_, fun k h1 h2 => ?_⟩
  · simp only [List.mem_singleton, Prod.mk.injEq] at hm
    obtain ⟨rfl, rfl⟩ := hm
    refine ⟨vs.length, Nat.le_refl _, by simp, rfl, ?_, hlive, fun v b hv hbl => ?_⟩
    · rw [← rd_obr, ho1]
      exact ⟨_, [], hnm, ⟨by simp, .inl ⟨rfl, A, rfl⟩⟩, rfl⟩
    · rw [get_last] at hv
      simp only [Option.some.injEq] at hv
      subst hv
      cases A <;> simp [blockOf] at hbl
  · have : k = vs.length := by simp at h2; omega
    subst this
    exact ⟨o1, by simp⟩

/-- A box is taken, and what it holds. -/
theorem take_box [Sites] {I : Nat → Prop} {z : Tk} {vs : List Value} (h : TkOk B c s w I z vs) {id : Nat} {o : Ob} {t : TypeId} {bs : List AV} (hl : look z.obs id = some o) (ho : rd o = .box t bs) (hv : isLive o = true) {b : Nat} (hn : c.nm id = some (.pointer (some ⟨b, 0, none⟩)))
    {cs : Sh} {x : cs.den} {z1 : Tk}
    (ih : ∀ {I : Nat → Prop} {vs us : List Value}, TkOk B c s w I ⟨put z.obs id .dead, z.tk ++ [(some id, o)], z.fz⟩ vs → VRs ⟨c.nm, I⟩ w bs us →
      ∃ I' vs' u1 u2, TkOk B c s w I' z1 vs' ∧ Ext ⟨c.nm, I⟩ w ⟨c.nm, I'⟩ w ∧ vs <+: vs' ∧ z.tk ++ [(some id, o)] <+: z1.tk ∧ us = u1 ++ u2 ∧ VRs ⟨c.nm, I'⟩ w [] u2 ∧ Blt c w cs x vs.length vs' I' z1 u1)
    {sh : Sh} (y : sh.den) (mkOb : List AV → Ob) (hmk : ∀ l, rd (mkOb l) = .box t l) (hlive : ∀ l, isLive (mkOb l) = true) (hro : ∀ l, isRo (mkOb l) = false → isRo o = false)
    (avs : (Nat → Nat) → Nat → List AV) (ul : List Value) (hul : ∀ (c' : Cf) (nm : Nat → Nat) (k : Nat), c'.nm (nm k) = some (.pointer (some ⟨b, 0, none⟩)) → VRs c' w (avs nm k) ul)
    (hb : ∀ nm n, bld nm sh y n = (avs nm n, (nm n, mkOb (bld nm cs x (n + 1)).1) :: (bld nm cs x (n + 1)).2.1, (bld nm cs x (n + 1)).2.2)) (hix : ∀ i ∈ updIx cs, i ∈ updIx sh) :
    ∃ I' vs', TkOk B c s w I' z1 vs' ∧ Ext ⟨c.nm, I⟩ w ⟨c.nm, I'⟩ w ∧ vs <+: vs' ∧ z.tk <+: z1.tk ∧ Blt c w sh y vs.length vs' I' z1 ul := by
  have htk := h.take hl hv hn
  have h1 := h.rel.ob id o hl
  rw [← rd_obr, ho] at h1
  obtain ⟨b', us, h2, h3, h4⟩ := h1
  simp only at h2
  rw [hn] at h2
  simp only [Option.some.injEq, Value.pointer.injEq, Addr.mk.injEq, and_true] at h2
  subst h2
  obtain ⟨I', vs', u1, u2, g1, g2, g3, g0, g4, g5, g6⟩ := ih htk h4
  simp only [VRs] at g5
  subst g5
  rw [List.append_nil] at g4
  subst g4
  have hpre : vs <+: vs' := (List.prefix_append vs _).trans g3
  have hat : vs'[vs.length]? = some (.pointer (some ⟨b, 0, none⟩)) := by
    obtain ⟨t', rfl⟩ := g3
    simp
  have hlt : vs.length < vs'.length := (List.getElem?_eq_some_iff.1 hat).1
  refine ⟨I', vs', g1, g2, hpre, (List.prefix_append _ _).trans g0, fun nm c' hg hI hkp => ?_⟩
  have hnm : c'.nm (nm vs.length) = some (.pointer (some ⟨b, 0, none⟩)) := hg _ _ hat
  obtain ⟨k1, k2, k3, k4⟩ := g6 nm c' hg hI (fun i hi => hkp i (hix i hi))
  simp only [List.length_append, List.length_cons, List.length_nil, Nat.zero_add] at k1 k2 k3 k4
  rw [hb]
  refine ⟨hul c' nm _ hnm, k2, fun i o0 hm => ?_, fun k h5 h6 => ?_⟩
  · rcases List.mem_cons.1 hm with e | hm
    · simp only [Prod.mk.injEq] at e
      obtain ⟨rfl, rfl⟩ := e
      refine ⟨vs.length, Nat.le_refl _, hlt, rfl, ?_, hlive _, fun v b1 hv hbl => ?_⟩
      · rw [← rd_obr, hmk]
        exact ⟨b, us, hnm, h3, k1⟩
      · rw [hat] at hv
        simp only [Option.some.injEq] at hv
        subst hv
        have hz : z1.tk[vs.length]? = some (some id, o) := by
          obtain ⟨t', e⟩ := g0
          rw [← e, h.len, List.getElem?_append_left (by simp), get_last]
        refine ⟨id, o, hz, ?_, hro _⟩
        rw [← rd_own, ho]
        exact ⟨_, hn, hbl⟩
    · obtain ⟨k, q1, q2, q3, q4, q5, q6⟩ := k3 i o0 hm
      exact ⟨k, by omega, q2, q3, q4, q5, q6⟩
  · by_cases e : k = vs.length
    · subst e
      exact ⟨_, List.mem_cons_self ..⟩
    · obtain ⟨o0, ho0⟩ := k4 k (by omega) h6
      exact ⟨o0, List.mem_cons_of_mem _ ho0⟩

theorem vr_slice {u : Value} {id : Nat} (h : VR c w (.own id) u) : c.nm id = some u ∧ isSlice u = true := by simpa only [VR] using h

theorem xt_ok [Sites] : ∀ (sh : Sh) (as : List AV) (z : Tk) (x : sh.den) (rest : List AV) (z' : Tk), xt sh as z = some (x, rest, z') → ∀ {I : Nat → Prop} {vs us : List Value}, TkOk B c s w I z vs → VRs ⟨c.nm, I⟩ w as us →
    ∃ I' vs' u1 u2, TkOk B c s w I' z' vs' ∧ Ext ⟨c.nm, I⟩ w ⟨c.nm, I'⟩ w ∧ vs <+: vs' ∧ z.tk <+: z'.tk ∧ us = u1 ++ u2 ∧ VRs ⟨c.nm, I'⟩ w rest u2 ∧ Blt c w sh x vs.length vs' I' z' u1 := by
  intro sh
  induction sh with
  | val t =>
    intro as z x rest z' h I vs us htk hv
    simp only [xt] at h
    split at h
    · rename_i v r
      split at h
      · rename_i x' hc hm
        simp only [Option.some.injEq, Prod.mk.injEq] at h
        obtain ⟨rfl, rfl, rfl⟩ := h
        simp only [Bool.and_eq_true] at hc
        simp only [VRs] at hv
        obtain ⟨u, us', rfl, h1, h2⟩ := hv
        obtain ⟨I', g1, g2⟩ := htk.frz v
        refine ⟨I', vs, [u], us', g1, g2, List.prefix_refl _, List.prefix_refl _, rfl, VRs.ext g2 _ _ h2, fun nm c' hg hI hkp => ?_⟩
        simp only [bld]
        refine ⟨?_, trivial, fun i o0 hm => (by cases hm), fun k h3 h4 => by omega⟩
        simp only [VRs]
        exact ⟨u, [], rfl, valOf_ok g1.rel.obs hc.1 hc.2 hm (VR.ext g2 _ _ h1) c' w fun us hh => TR.lasts ⟨hI, fun _ _ => rfl⟩ hh, rfl⟩
      · cases h
    · cases h
  | own e t =>
    intro as z x rest z' h I vs us htk hv
    simp only [xt] at h
    split at h
    · cases hmt : isMapTy e with
      | true => simp [hmt] at h
      | false =>
        simp only [hmt, cond_false, Option.some.injEq, Prod.mk.injEq] at h
        obtain ⟨rfl, rfl, rfl⟩ := h
        simp only [VRs] at hv
        obtain ⟨u, us', rfl, h1, h2⟩ := hv
        simp only [VR] at h1
        obtain ⟨A, rfl⟩ := h1
        obtain ⟨g1, g2⟩ := nils_row htk A (.row e t []) (sh := .own e t) [] (.row e t []) rfl rfl (fun nm k => [mkRow e (nm k)]) [.slice A 0 0] (fun c' nm k hk => by simp only [VRs, mkRow, hmt, cond_false, VR]; exact ⟨_, [], rfl, ⟨hk, rfl⟩, rfl⟩) (fun nm n => rfl)
        exact ⟨I, _, [_], us', g1, Ext.refl _ _, List.prefix_append _ _, List.prefix_append _ _, rfl, h2, g2⟩
    · rename_i v r _
      split at h
      · rename_i id hrn
        simp only [VRs] at hv
        obtain ⟨u, us', rfl, h1, h2⟩ := hv
        obtain ⟨hn, hmk⟩ := rowName_ok hrn h1
        split at h
        · rename_i e' t' l hl
          split at h
          · rename_i m hb hm
            obtain ⟨rfl, rfl⟩ := castL_some hm
            have := Nat.eq_of_beq_eq_true hb
            subst this
            simp only [Option.some.injEq, Prod.mk.injEq] at h
            obtain ⟨rfl, rfl, rfl⟩ := h
            obtain ⟨g1, g2⟩ := take_row htk hl rfl rfl hn (sh := .own e' t') _ (.row e' t' _) rfl rfl (fun h => h) (fun nm k => [mkRow e' (nm k)]) [u] (fun c' nm k hk => by simp only [VRs]; exact ⟨u, [], rfl, hmk c' w _ hk, rfl⟩) (fun nm n => rfl)
            exact ⟨I, _, [u], us', g1, Ext.refl _ _, List.prefix_append _ _, List.prefix_append _ _, rfl, h2, g2⟩
          · cases h
        · cases h
      · cases h
    · cases h
  | rown e t =>
    intro as z x rest z' h I vs us htk hv
    simp only [xt] at h
    split at h
    · cases hmt : isMapTy e with
      | true => simp [hmt] at h
      | false =>
        simp only [hmt, cond_false, Option.some.injEq, Prod.mk.injEq] at h
        obtain ⟨rfl, rfl, rfl⟩ := h
        simp only [VRs] at hv
        obtain ⟨u, us', rfl, h1, h2⟩ := hv
        simp only [VR] at h1
        obtain ⟨A, rfl⟩ := h1
        obtain ⟨g1, g2⟩ := nils_row htk A (.row e t []) (sh := .rown e t) [] (.rrow e t []) rfl rfl (fun nm k => [mkRow e (nm k)]) [.slice A 0 0] (fun c' nm k hk => by simp only [VRs, mkRow, hmt, cond_false, VR]; exact ⟨_, [], rfl, ⟨hk, rfl⟩, rfl⟩) (fun nm n => rfl)
        exact ⟨I, _, [_], us', g1, Ext.refl _ _, List.prefix_append _ _, List.prefix_append _ _, rfl, h2, g2⟩
    · rename_i v r _
      split at h
      · rename_i id hrn
        simp only [VRs] at hv
        obtain ⟨u, us', rfl, h1, h2⟩ := hv
        obtain ⟨hn, hmk⟩ := rowName_ok hrn h1
        split at h
        · rename_i e' t' l hl
          split at h
          · rename_i m hb hm
            obtain ⟨rfl, rfl⟩ := castL_some hm
            have := Nat.eq_of_beq_eq_true hb
            subst this
            simp only [Option.some.injEq, Prod.mk.injEq] at h
            obtain ⟨rfl, rfl, rfl⟩ := h
            obtain ⟨g1, g2⟩ := take_row htk hl rfl rfl hn (sh := .rown e' t') _ (.rrow e' t' _) rfl rfl (fun h => by cases h) (fun nm k => [mkRow e' (nm k)]) [u] (fun c' nm k hk => by simp only [VRs]; exact ⟨u, [], rfl, hmk c' w _ hk, rfl⟩) (fun nm n => rfl)
            exact ⟨I, _, [u], us', g1, Ext.refl _ _, List.prefix_append _ _, List.prefix_append _ _, rfl, h2, g2⟩
          · cases h
        · rename_i e' t' l hl
          split at h
          · rename_i m hb hm
            obtain ⟨rfl, rfl⟩ := castL_some hm
            have := Nat.eq_of_beq_eq_true hb
            subst this
            simp only [Option.some.injEq, Prod.mk.injEq] at h
            obtain ⟨rfl, rfl, rfl⟩ := h
            obtain ⟨g1, g2⟩ := take_row htk hl rfl rfl hn (sh := .rown e' t') _ (.rrow e' t' _) rfl rfl (fun h => by cases h) (fun nm k => [mkRow e' (nm k)]) [u] (fun c' nm k hk => by simp only [VRs]; exact ⟨u, [], rfl, hmk c' w _ hk, rfl⟩) (fun nm n => rfl)
            exact ⟨I, _, [u], us', g1, Ext.refl _ _, List.prefix_append _ _, List.prefix_append _ _, rfl, h2, g2⟩
          · cases h
        · cases h
      · cases h
    · cases h
  | box t cs ih =>
    intro as z x rest z' h I vs us htk hv
    simp only [xt] at h
    split at h
    · rename_i v r
      split at h
      · rename_i id hbn
        simp only [VRs] at hv
        obtain ⟨u, us', rfl, h1, h2⟩ := hv
        obtain ⟨b, hn, hmk⟩ := boxName_ok hbn h1
        split at h
        · rename_i t' bs hl
          split at h
          · rename_i x' z1 hb hx
            have := Nat.eq_of_beq_eq_true hb
            subst this
            simp only [Option.some.injEq, Prod.mk.injEq] at h
            obtain ⟨rfl, rfl, rfl⟩ := h
            obtain ⟨I', vs', g1, g2, g3, g4, g5⟩ := take_box htk hl rfl rfl hn (cs := cs) (x := x') (z1 := z1) (fun h1 h2 => ih bs _ x' [] z1 hx h1 h2) (sh := .box t' cs) x' (.box t') (fun _ => rfl) (fun _ => rfl) (fun _ h => h)
              (fun nm k => [mkPtr t' (nm k)]) [u] (fun c' nm k hk => by simp only [VRs]; exact ⟨_, [], rfl, hmk c' w _ hk, rfl⟩) (fun nm n => rfl) (fun i hi => hi)
            exact ⟨I', vs', [_], us', g1, g2, g3, g4, rfl, VRs.ext g2 _ _ h2, g5⟩
          · cases h
        · cases h
      · cases h
    · cases h
  | rbox t cs ih =>
    intro as z x rest z' h I vs us htk hv
    simp only [xt] at h
    split at h
    · rename_i id r
      simp only [VRs] at hv
      obtain ⟨u, us', rfl, h1, h2⟩ := hv
      simp only [VR] at h1
      obtain ⟨b, hn, rfl⟩ := h1
      split at h
      · rename_i t' bs hl
        split at h
        · rename_i x' z1 hb hx
          have := Nat.eq_of_beq_eq_true hb
          subst this
          simp only [Option.some.injEq, Prod.mk.injEq] at h
          obtain ⟨rfl, rfl, rfl⟩ := h
          obtain ⟨I', vs', g1, g2, g3, g4, g5⟩ := take_box htk hl rfl rfl hn (cs := cs) (x := x') (z1 := z1) (fun h1 h2 => ih bs _ x' [] z1 hx h1 h2) (sh := .rbox t' cs) x' (.rbox t') (fun _ => rfl) (fun _ => rfl) (fun _ h => by cases h)
            (fun nm k => [.ptr (nm k) 0]) [.pointer (some ⟨b, 0, none⟩)] (fun c' nm k hk => by simp only [VRs, VR]; exact ⟨_, [], rfl, ⟨b, hk, rfl⟩, rfl⟩) (fun nm n => rfl) (fun i hi => hi)
          exact ⟨I', vs', [_], us', g1, g2, g3, g4, rfl, VRs.ext g2 _ _ h2, g5⟩
        · cases h
      · rename_i t' bs hl
        split at h
        · rename_i x' z1 hb hx
          have := Nat.eq_of_beq_eq_true hb
          subst this
          simp only [Option.some.injEq, Prod.mk.injEq] at h
          obtain ⟨rfl, rfl, rfl⟩ := h
          obtain ⟨I', vs', g1, g2, g3, g4, g5⟩ := take_box htk hl rfl rfl hn (cs := cs) (x := x') (z1 := z1) (fun h1 h2 => ih bs _ x' [] z1 hx h1 h2) (sh := .rbox t' cs) x' (.rbox t') (fun _ => rfl) (fun _ => rfl) (fun _ h => by cases h)
            (fun nm k => [.ptr (nm k) 0]) [.pointer (some ⟨b, 0, none⟩)] (fun c' nm k hk => by simp only [VRs, VR]; exact ⟨_, [], rfl, ⟨b, hk, rfl⟩, rfl⟩) (fun nm n => rfl) (fun i hi => hi)
          exact ⟨I', vs', [_], us', g1, g2, g3, g4, rfl, VRs.ext g2 _ _ h2, g5⟩
        · cases h
      · cases h
    · cases h
  | upd i t cs ih =>
    intro as z x rest z' h I vs us htk hv
    simp only [xt] at h
    split at h
    · rename_i t' bs hl
      split at h
      · rename_i x' z1 hb hx
        have := Nat.eq_of_beq_eq_true hb
        subst this
        simp only [Option.some.injEq, Prod.mk.injEq] at h
        obtain ⟨rfl, rfl, rfl⟩ := h
        obtain ⟨b, _, hn, _, _⟩ := htk.rel.ob i _ hl
        obtain ⟨I', vs', g1, g2, g3, g4, g5⟩ := take_box htk hl rfl rfl hn (cs := cs) (x := x') (z1 := z1) (fun h1 h2 => ih bs _ x' [] z1 hx h1 h2) (sh := .upd i t' cs) x' (.box t') (fun _ => rfl) (fun _ => rfl) (fun _ h => h)
          (fun nm k => []) [] (fun c' nm k hk => by simp only [VRs]) (fun nm n => rfl) (fun i hi => List.mem_cons_of_mem _ hi)
        exact ⟨I', vs', [], us, g1, g2, g3, g4, rfl, VRs.ext g2 _ _ hv, g5⟩
      · cases h
    · cases h
  | updr i e t =>
    intro as z x rest z' h I vs us htk hv
    simp only [xt] at h
    split at h
    · rename_i e' t' l hl
      split at h
      · rename_i m hb hm
        obtain ⟨rfl, rfl⟩ := castL_some hm
        have := Nat.eq_of_beq_eq_true hb
        subst this
        simp only [Option.some.injEq, Prod.mk.injEq] at h
        obtain ⟨rfl, rfl, rfl⟩ := h
        obtain ⟨u, _, hn, hrow, _⟩ := htk.rel.ob i _ hl
        obtain ⟨g1, g2⟩ := take_row htk hl rfl rfl hn (sh := .updr i e' t') _ (.row e' t' _) rfl rfl (fun h => h) (fun nm k => []) [] (fun c' nm k hk => by simp only [VRs]) (fun nm n => rfl)
        exact ⟨I, _, [], us, g1, Ext.refl _ _, List.prefix_append _ _, List.prefix_append _ _, rfl, hv, g2⟩
      · cases h
    · cases h
  | fn f cap ih =>
    intro as z x rest z' h I vs us htk hv
    simp only [xt] at h
    split at h
    · rename_i f' bs r
      simp only [VRs] at hv
      obtain ⟨u, us', rfl, h1, h2⟩ := hv
      simp only [VR, VRs] at h1
      obtain ⟨us0, ws, rfl, rfl, h4⟩ := h1
      split at h
      · rename_i x' z1 hb hx
        have := Nat.eq_of_beq_eq_true hb
        subst this
        simp only [Option.some.injEq, Prod.mk.injEq] at h
        obtain ⟨rfl, rfl, rfl⟩ := h
        obtain ⟨I', vs', u1, u2, g1, g2, g3, g0, g4, g5, g6⟩ := ih bs z x' [] z1 hx htk h4
        simp only [VRs] at g5
        subst g5
        rw [List.append_nil] at g4
        subst g4
        refine ⟨I', vs', [_], us', g1, g2, g3, g0, rfl, VRs.ext g2 _ _ h2, fun nm c' hg hI hkp => ?_⟩
        obtain ⟨k1, k2, k3, k4⟩ := g6 nm c' hg hI hkp
        simp only [bld]
        refine ⟨?_, k2, k3, k4⟩
        simp only [VRs, VR]
        exact ⟨_, [], rfl, ⟨[], _, rfl, rfl, k1⟩, rfl⟩
      · cases h
    · cases h
  | els sz n cs ih =>
    intro as z x rest z' h I vs us htk hv
    simp only [xt] at h
    split at h
    · rename_i sz' n' bs r
      simp only [VRs] at hv
      obtain ⟨u, us', rfl, h1, h2⟩ := hv
      simp only [VR] at h1
      obtain ⟨b, ws, rfl, hn, hIb, h4, hc⟩ := h1
      split at h
      · rename_i x' z1 hb hx
        simp only [Bool.and_eq_true] at hb
        have e1 := Nat.eq_of_beq_eq_true hb.1
        have e2 := Nat.eq_of_beq_eq_true hb.2
        subst e1; subst e2
        simp only [Option.some.injEq, Prod.mk.injEq] at h
        obtain ⟨rfl, rfl, rfl⟩ := h
        obtain ⟨I', vs', u1, u2, g1, g2, g3, g0, g4, g5, g6⟩ := ih bs z x' [] z1 hx htk h4
        simp only [VRs] at g5
        subst g5
        rw [List.append_nil] at g4
        subst g4
        refine ⟨I', vs', [_], us', g1, g2, g3, g0, rfl, VRs.ext g2 _ _ h2, fun nm c' hg hI hkp => ?_⟩
        obtain ⟨k1, k2, k3, k4⟩ := g6 nm c' hg hI hkp
        simp only [bld]
        refine ⟨?_, k2, k3, k4⟩
        simp only [VRs, VR]
        exact ⟨_, [], rfl, ⟨b, _, rfl, ⟨hn.1, hn.2.1, by rw [← k1.length, h4.length]; exact hn.2.2⟩, hI _ (g2.lasts.sub b hIb), k1, hc⟩, rfl⟩
      · cases h
    · cases h
  | agg cs ih =>
    intro as z x rest z' h I vs us htk hv
    simp only [xt] at h
    split at h
    · rename_i bs r
      simp only [VRs] at hv
      obtain ⟨u, us', rfl, h1, h2⟩ := hv
      simp only [VR] at h1
      obtain ⟨ws, rfl, h4⟩ := h1
      split at h
      · rename_i x' z1 hx
        simp only [Option.some.injEq, Prod.mk.injEq] at h
        obtain ⟨rfl, rfl, rfl⟩ := h
        obtain ⟨I', vs', u1, u2, g1, g2, g3, g0, g4, g5, g6⟩ := ih bs z x' [] z1 hx htk h4
        simp only [VRs] at g5
        subst g5
        rw [List.append_nil] at g4
        subst g4
        refine ⟨I', vs', [_], us', g1, g2, g3, g0, rfl, VRs.ext g2 _ _ h2, fun nm c' hg hI hkp => ?_⟩
        obtain ⟨k1, k2, k3, k4⟩ := g6 nm c' hg hI hkp
        simp only [bld]
        refine ⟨?_, k2, k3, k4⟩
        simp only [VRs, VR]
        exact ⟨_, [], rfl, ⟨_, rfl, k1⟩, rfl⟩
      · cases h
    · cases h
  | ref i =>
    intro as z x rest z' h I vs us htk hv
    simp only [xt] at h
    split at h
    · rename_i id r
      simp only [VRs] at hv
      obtain ⟨u, us', rfl, h1, h2⟩ := hv
      simp only [VR] at h1
      obtain ⟨b, hn, rfl⟩ := h1
      split at h
      · rename_i id' o hk
        split at h
        · rename_i hb
          have := Nat.eq_of_beq_eq_true hb
          subst this
          simp only [Option.some.injEq, Prod.mk.injEq] at h
          obtain ⟨_, rfl, rfl⟩ := h
          refine ⟨I, vs, [_], us', htk, Ext.refl _ _, List.prefix_refl _, List.prefix_refl _, rfl, h2, fun nm c' hg hI hkp => ?_⟩
          simp only [bld]
          refine ⟨?_, trivial, fun i o0 hm => (by cases hm), fun k h3 h4 => by omega⟩
          simp only [VRs, VR]
          refine ⟨_, [], rfl, ⟨b, ?_, rfl⟩, rfl⟩
          have := (htk.at_ _ _ _ hk).2.2.2
          rw [hn] at this
          exact hg _ _ this.symm
        · cases h
      · cases h
    · cases h
  | refr i =>
    intro as z x rest z' h I vs us htk hv
    simp only [xt] at h
    split at h
    · rename_i id r
      simp only [VRs] at hv
      obtain ⟨u, us', rfl, h1, h2⟩ := hv
      simp only [VR] at h1
      obtain ⟨hn, hsl⟩ := h1
      split at h
      · rename_i id' o hk
        split at h
        · rename_i hb
          have := Nat.eq_of_beq_eq_true hb
          subst this
          simp only [Option.some.injEq, Prod.mk.injEq] at h
          obtain ⟨_, rfl, rfl⟩ := h
          refine ⟨I, vs, [_], us', htk, Ext.refl _ _, List.prefix_refl _, List.prefix_refl _, rfl, h2, fun nm c' hg hI hkp => ?_⟩
          simp only [bld]
          refine ⟨?_, trivial, fun i o0 hm => (by cases hm), fun k h3 h4 => by omega⟩
          simp only [VRs, VR]
          refine ⟨_, [], rfl, ⟨?_, hsl⟩, rfl⟩
          have := (htk.at_ _ _ _ hk).2.2.2
          rw [hn] at this
          exact hg _ _ this.symm
        · cases h
      · cases h
    · cases h
  | nils =>
    intro as z x rest z' h I vs us htk hv
    simp only [xt] at h
    split at h
    · simp only [VRs] at hv
      obtain ⟨u, us', rfl, h1, h2⟩ := hv
      simp only [VR] at h1
      simp only [Option.some.injEq, Prod.mk.injEq] at h
      obtain ⟨_, rfl, rfl⟩ := h
      refine ⟨I, vs, [_], us', htk, Ext.refl _ _, List.prefix_refl _, List.prefix_refl _, rfl, h2, fun nm c' hg hI hkp => ?_⟩
      simp only [bld]
      refine ⟨?_, trivial, fun i o0 hm => (by cases hm), fun k h3 h4 => by omega⟩
      simp only [VRs, VR]
      exact ⟨_, [], rfl, h1, rfl⟩
    · cases h
  | nilp =>
    intro as z x rest z' h I vs us htk hv
    simp only [xt] at h
    split at h
    · simp only [VRs] at hv
      obtain ⟨u, us', rfl, h1, h2⟩ := hv
      simp only [VR] at h1
      simp only [Option.some.injEq, Prod.mk.injEq] at h
      obtain ⟨_, rfl, rfl⟩ := h
      refine ⟨I, vs, [_], us', htk, Ext.refl _ _, List.prefix_refl _, List.prefix_refl _, rfl, h2, fun nm c' hg hI hkp => ?_⟩
      simp only [bld]
      refine ⟨?_, trivial, fun i o0 hm => (by cases hm), fun k h3 h4 => by omega⟩
      simp only [VRs, VR]
      exact ⟨_, [], rfl, h1, rfl⟩
    · cases h
  | junk =>
    intro as z x rest z' h I vs us htk hv
    simp only [xt] at h
    split at h
    · simp only [VRs] at hv
      obtain ⟨u, us', rfl, h1, h2⟩ := hv
      simp only [Option.some.injEq, Prod.mk.injEq] at h
      obtain ⟨_, rfl, rfl⟩ := h
      refine ⟨I, vs, [_], us', htk, Ext.refl _ _, List.prefix_refl _, List.prefix_refl _, rfl, h2, fun nm c' hg hI hkp => ?_⟩
      simp only [bld]
      refine ⟨?_, trivial, fun i o0 hm => (by cases hm), fun k h3 h4 => by omega⟩
      simp only [VRs, VR]
      exact ⟨_, [], rfl, trivial, rfl⟩
    · cases h
  | refy i =>
    intro as z x rest z' h I vs us htk hv
    simp only [xt] at h
    split at h
    · rename_i id r
      simp only [VRs] at hv
      obtain ⟨u, us', rfl, h1, h2⟩ := hv
      simp only [VR] at h1
      obtain ⟨b, hn, rfl⟩ := h1
      split at h
      · rename_i id' o hk
        split at h
        · rename_i hb
          have := Nat.eq_of_beq_eq_true hb
          subst this
          simp only [Option.some.injEq, Prod.mk.injEq] at h
          obtain ⟨_, rfl, rfl⟩ := h
          refine ⟨I, vs, [_], us', htk, Ext.refl _ _, List.prefix_refl _, List.prefix_refl _, rfl, h2, fun nm c' hg hI hkp => ?_⟩
          simp only [bld]
          refine ⟨?_, trivial, fun i o0 hm => (by cases hm), fun k h3 h4 => by omega⟩
          simp only [VRs, VR]
          refine ⟨_, [], rfl, ⟨b, ?_, rfl⟩, rfl⟩
          have := (htk.at_ _ _ _ hk).2.2.2
          rw [hn] at this
          exact hg _ _ this.symm
        · cases h
      · cases h
    · cases h
  | arr e t n =>
    intro as z x rest z' h I vs us htk hv
    simp only [xt] at h
    split at h
    · rename_i id m r
      simp only [VRs] at hv
      obtain ⟨u, us', rfl, h1, h2⟩ := hv
      simp only [VR] at h1
      obtain ⟨b, hn, hm, rfl⟩ := h1
      split at h
      · rename_i e' t' l hl
        split at h
        · rename_i m' hb hc
          obtain ⟨rfl, rfl⟩ := castL_some hc
          simp only [Bool.and_eq_true] at hb
          have e1 := Nat.eq_of_beq_eq_true hb.1
          have e2 := Nat.eq_of_beq_eq_true hb.2
          subst e1; subst e2
          simp only [Option.some.injEq, Prod.mk.injEq] at h
          obtain ⟨rfl, rfl, rfl⟩ := h
          obtain ⟨g1, g2⟩ := take_row htk hl rfl rfl hn (sh := .arr e' t' m) _ (.row e' t' _) rfl rfl (fun h => h) (fun nm k => [.aptr (nm k) m]) [.pointer (some ⟨b, 0, none⟩)]
            (fun c' nm k hk => by simp only [VRs, VR]; exact ⟨_, [], rfl, ⟨b, hk, hm, rfl⟩, rfl⟩) (fun nm n => rfl)
          exact ⟨I, _, [_], us', g1, Ext.refl _ _, List.prefix_append _ _, List.prefix_append _ _, rfl, h2, g2⟩
        · cases h
      · cases h
    · cases h
  | keep k i =>
    intro as z x rest z' h I vs us htk hv
    simp only [xt] at h
    split at h
    · split at h
      · rename_i v r hk
        simp only [VRs] at hv
        obtain ⟨u, us', rfl, h1, h2⟩ := hv
        simp only [Option.some.injEq, Prod.mk.injEq] at h
        obtain ⟨_, rfl, rfl⟩ := h
        refine ⟨I, vs, [_], us', htk, Ext.refl _ _, List.prefix_refl _, List.prefix_refl _, rfl, h2, fun nm c' hg hI hkp => ?_⟩
        simp only [bld]
        refine ⟨?_, trivial, fun i o0 hm => (by cases hm), fun k h3 h4 => by omega⟩
        obtain ⟨u0, g1, g2⟩ := keep_ok hk h1
        simp only [VRs]
        exact ⟨_, [], rfl, g2 c' w _ (hkp i (by simp [updIx]) u0 g1), rfl⟩
      · cases h
    · cases h
  | nil =>
    intro as z x rest z' h I vs us htk hv
    simp only [xt, Option.some.injEq, Prod.mk.injEq] at h
    obtain ⟨_, rfl, rfl⟩ := h
    refine ⟨I, vs, [], us, htk, Ext.refl _ _, List.prefix_refl _, List.prefix_refl _, rfl, hv, fun nm c' hg hI hkp => ?_⟩
    simp only [bld]
    exact ⟨by simp only [VRs], trivial, fun i o0 hm => (by cases hm), fun k h3 h4 => by omega⟩
  | cons a r iha ihr =>
    intro as z x rest z' h I vs us htk hv
    simp only [xt] at h
    split at h
    · rename_i x1 bs z1 h1
      split at h
      · rename_i y1 cs z2 h2
        simp only [Option.some.injEq, Prod.mk.injEq] at h
        obtain ⟨rfl, rfl, rfl⟩ := h
        obtain ⟨I1, vs1, u1, u2, g1, g2, g3, g0, rfl, g5, g6⟩ := iha as z x1 bs z1 h1 htk hv
        obtain ⟨I2, vs2, u3, u4, k1, k2, k3, k0, rfl, k5, k6⟩ := ihr bs z1 y1 cs z2 h2 g1 g5
        refine ⟨I2, vs2, u1 ++ u3, u4, k1, g2.trans k2, g3.trans k3, g0.trans k0, by rw [List.append_assoc], k5, fun nm c' hg hI hkp => ?_⟩
        have hI1 : ∀ b, I1 b → c'.I b := fun b hb => hI b (k2.lasts.sub b hb)
        obtain ⟨p1, p2, p3, p4⟩ := g6 nm c' (hg.pre k3) hI1 (fun i hi => hkp i (List.mem_append_left _ hi))
        obtain ⟨q1, q2, q3, q4⟩ := k6 nm c' hg hI (fun i hi => hkp i (List.mem_append_right _ hi))
        have hl1 := g3.length_le
        have hl2 := k3.length_le
        simp only [bld]
        rw [p2]
        refine ⟨p1.append q1, q2, fun i o0 hm => ?_, fun k h3 h4 => ?_⟩
        · rcases List.mem_append.1 hm with hm | hm
          · obtain ⟨k, e1, e2, e3, e4, e5, e6⟩ := p3 i o0 hm
            refine ⟨k, e1, by omega, e3, e4, e5, fun v b hv hb => ?_⟩
            have hv1 : vs1[k]? = some v := by
              obtain ⟨t', rfl⟩ := k3
              rw [List.getElem?_append_left e2] at hv
              exact hv
            obtain ⟨id, o, f1, f2, f3⟩ := e6 v b hv1 hb
            refine ⟨id, o, ?_, f2, f3⟩
            obtain ⟨t', e⟩ := k0
            rw [← e, List.getElem?_append_left (List.getElem?_eq_some_iff.1 f1).1]
            exact f1
          · obtain ⟨k, e1, e2⟩ := q3 i o0 hm
            exact ⟨k, by omega, e2⟩
        · rcases Nat.lt_or_ge k vs1.length with hlt | hge
          · obtain ⟨o0, ho⟩ := p4 k h3 hlt
            exact ⟨o0, List.mem_append_left _ ho⟩
          · obtain ⟨o0, ho⟩ := q4 k hge h4
            exact ⟨o0, List.mem_append_right _ ho⟩
      · cases h
    · cases h
end
end Go.Hay
