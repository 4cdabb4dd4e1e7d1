/- A disk's calls as the program does them, and as the document says, in plain Lean: they answer alike. Conditions: none. -/
import Derived.Test.YthlojpcjafefjaaHayDk
set_option linter.unusedVariables false
set_option linter.unusedSimpArgs false
namespace Go.Hay

/-- The program's disk. -/
structure DD where
  room : Int
  used : Int
  files : DFs
  steps : Int
  left : Int
  dead : Bool
/-- The document's. -/
structure RS where
  room : Int
  steps : Int
  files : DFs
  armed : Bool
  dead : Bool
  left : Int
@[reducible] def DD.t (d : DD) : Int × Int × DFs × Int × Int × Bool × Unit := (d.room, d.used, d.files, d.steps, d.left, d.dead, ())
@[reducible] def RS.t (r : RS) : Int × Int × DFs × Bool × Bool × Int := (r.room, r.steps, r.files, r.armed, r.dead, r.left)
abbrev wr (n : Int) : Int := IntKind.i64.wrap n

def nameOk (s : DNm) : Bool := s.all (fun c => decide (33 ≤ c.toNat) && decide (c.toNat ≤ 126)) && (decide (1 ≤ s.length) && decide (s.length ≤ 32))

def dNew (n : Int) : DD := ⟨max n 0, 0, [], 0, -1, false⟩
def rNew (n : Int) : RS := ⟨max n 0, 0, [], false, false, 0⟩
def dStep (d : DD) : DD × Bool :=
  bif decide (d.left = -1) then ({ d with steps := wr (d.steps + 1) }, false)
  else bif decide (d.left = 0) then ({ d with steps := wr (d.steps + 1), dead := true }, true)
  else ({ d with steps := wr (d.steps + 1), left := wr (d.left - 1) }, false)
def rStep (r : RS) : RS × Bool :=
  bif r.armed then
    bif decide (r.left = 0) then ({ r with steps := wr (r.steps + 1), dead := true }, true)
    else ({ r with steps := wr (r.steps + 1), left := wr (r.left - 1) }, false)
  else ({ r with steps := wr (r.steps + 1), left := wr (r.left - 1) }, false)
def dGet (d : DD) (k : DNm) : DFl := mapGet d.files k f0
def rGet (r : RS) (k : DNm) : DFl := mapGet r.files k f0
def dLay (d : DD) (name : DNm) (f : DFl) : DD := { d with used := wr (d.used + wr ((f.1.length : Int) - ((dGet d name).1.length : Int))), files := mapPut d.files name f }
def dTake (d : DD) (name : DNm) : DD := { d with used := wr (d.used - ((dGet d name).1.length : Int)), files := mapDel d.files name }
def rFree (r : RS) : Int := r.room - (sumL r.files : Int)

def dAppend (d : DD) (name : DNm) (b : List UInt8) : DD × Int :=
  bif d.dead then (d, 44) else bif !nameOk name then (d, 40) else bif decide ((b.length : Int) > wr (d.room - d.used)) then (d, 41)
  else ((dStep (dLay d name ((dGet d name).1 ++ b, (dGet d name).2))).1, bif (dStep (dLay d name ((dGet d name).1 ++ b, (dGet d name).2))).2 then 44 else 0)
def rWith (r : RS) (name : DNm) (f : DFl) : RS := { r with files := insF (name, f) r.files }
def rAppend (r : RS) (name : DNm) (b : List UInt8) : RS × Int :=
  bif r.dead then (r, 44) else bif !nameOk name then (r, 40) else bif decide ((b.length : Int) > rFree r) then (r, 41)
  else ((rStep (rWith r name ((rGet r name).1 ++ b, (rGet r name).2))).1, bif (rStep (rWith r name ((rGet r name).1 ++ b, (rGet r name).2))).2 then 44 else 0)

/-- A step at a file, if it is not refused. -/
def dDo (why : DFl → Int) (done : DFl → DD → DD) (d : DD) (name : DNm) : DD × Int :=
  bif d.dead then (d, 44) else bif !mapHas d.files name then (d, 42) else bif !decide (why (dGet d name) = 0) then (d, why (dGet d name))
  else bif (dStep d).2 then ((dStep d).1, 44) else (done (dGet d name) (dStep d).1, 0)
def rDo (why : DFl → Int) (done : DFl → DFs → DFs) (r : RS) (name : DNm) : RS × Int :=
  bif r.dead then (r, 44) else bif !mapHas r.files name then (r, 42) else bif !decide (why (rGet r name) = 0) then (r, why (rGet r name))
  else bif (rStep r).2 then ((rStep r).1, 44) else ({ (rStep r).1 with files := done (rGet r name) r.files }, 0)
def whyT (n : Int) (f : DFl) : Int := bif decide (n < 0) || decide (n > (f.1.length : Int)) then 43 else 0
def whyR (to : DNm) (f : DFl) : Int := bif nameOk to then 0 else 40
def dSync (d : DD) (name : DNm) : DD × Int := dDo (fun _ => 0) (fun f d => dLay d name (f.1, (f.1.length : Int))) d name
def rSync (r : RS) (name : DNm) : RS × Int := rDo (fun _ => 0) (fun f l => insF (name, f.1, (f.1.length : Int)) l) r name
def dTrunc (d : DD) (name : DNm) (n : Int) : DD × Int := dDo (whyT n) (fun f d => dLay d name (f.1.take n.toNat, min f.2 n)) d name
def rTrunc (r : RS) (name : DNm) (n : Int) : RS × Int := rDo (whyT n) (fun f l => insF (name, f.1.take n.toNat, min f.2 n) l) r name
def dRename (d : DD) (name to : DNm) : DD × Int := dDo (whyR to) (fun _ d => dLay (dTake (dTake d name) to) to (dGet d name)) d name
def rRename (r : RS) (name to : DNm) : RS × Int := rDo (whyR to) (fun f l => insF (to, f) (rm name l)) r name
def dRemove (d : DD) (name : DNm) : DD × Int := dDo (fun _ => 0) (fun _ d => dTake d name) d name
def rRemove (r : RS) (name : DNm) : RS × Int := rDo (fun _ => 0) (fun _ l => rm name l) r name
def dArm (d : DD) (n : Int) : DD := bif !d.dead then { d with left := max n (-1) } else d
def rArm (r : RS) (n : Int) : RS := bif !r.dead then { r with armed := decide (n ≥ 0), left := n } else r
def dWipe (d : DD) : DD := { d with used := 0, files := [] }
def rWipe (r : RS) : RS := { r with files := [] }
/-- A byte with one bit turned. -/
def turned (c : UInt8) (bit : Int) : UInt8 := u8 (IntKind.u8.wrap ((BitVec.ofInt 8 (c.toNat : Int) ^^^ BitVec.ofInt 8 (IntKind.u8.wrap ((1 : Int) * (2 ^ (min bit.toNat 8))))).toNat : Int))
def turnedAt (b : List UInt8) (at_ bit : Int) : List UInt8 := b.set at_.toNat (turned (b.getD at_.toNat (0 : UInt8)) bit)
def flips (has : Bool) (f : DFl) (at_ bit : Int) : Bool := has && (!decide (at_ < 0) && (!decide (at_ ≥ (f.1.length : Int)) && (!decide (bit < 0) && !decide (bit > 7))))
def dFlip (d : DD) (name : DNm) (at_ bit : Int) : DD × Bool :=
  bif flips (mapHas d.files name) (dGet d name) at_ bit then ({ d with files := mapPut d.files name (turnedAt (dGet d name).1 at_ bit, (dGet d name).2) }, true) else (d, false)
def rFlip (r : RS) (name : DNm) (at_ bit : Int) : RS × Bool :=
  bif flips (mapHas r.files name) (rGet r name) at_ bit then (rWith r name (turnedAt (rGet r name).1 at_ bit, (rGet r name).2), true) else (r, false)
/-- What of a file is found behind a crash. -/
def found (f : DFl) (keep : List Int) : Int := f.2 + min (max (keep.getD 0 0) 0) ((f.1.length : Int) - f.2)
def crashF : DFs → List Int → DFs
  | [], _ => []
  | p :: l, keep => (p.1, p.2.1.take (found p.2 keep).toNat, found p.2 keep) :: crashF l (keep.drop 1)
def rCrash (r : RS) (keep : List Int) : RS := ⟨r.room, 0, crashF r.files keep, false, false, 0⟩
def dCrash (d : DD) (l : DFs) (keep : List Int) : DD := ⟨d.room, (sumL (crashF l keep) : Int), crashF l keep, 0, -1, false⟩

/-- A map of files, and the list that stands for it. -/
structure FI (k : Nat) (room used : Int) (files l : DFs) : Prop where
  perm : files.Perm l
  sorted : SortedF l
  used : used = (sumL l : Int)
  last : ∀ p ∈ l, 0 ≤ p.2.2 ∧ p.2.2 ≤ (p.2.1.length : Int)
  fits : (sumL l : Int) ≤ room
  room : room < 9223372036854775808
  cnt : l.length ≤ k
  sum : sumL l ≤ k
  small : k ≤ 2199023255552

structure Inv (k : Nat) (d : DD) (r : RS) : Prop where
  room : d.room = r.room
  steps : d.steps = r.steps
  dead : d.dead = r.dead
  left : d.left = bif r.armed then r.left else -1
  pos : r.armed = true → 0 ≤ r.left ∧ r.left < 9223372036854775808
  fi : FI k d.room d.used d.files r.files
  st : 0 ≤ r.steps ∧ r.steps ≤ k

section
variable {k k' : Nat} {room used : Int} {files l : DFs}

theorem FI.keysL (h : FI k room used files l) : KeysN l := h.sorted.keys
theorem FI.keys (h : FI k room used files l) : KeysN files := h.keysL.perm h.perm.symm
theorem FI.get (h : FI k room used files l) (name : DNm) : mapGet files name f0 = mapGet l name f0 := perm_get h.perm h.keys name f0
theorem FI.has (h : FI k room used files l) (name : DNm) : mapHas files name = mapHas l name := perm_has h.perm name
theorem FI.names (h : FI k room used files l) : sortKeys files = l.map (·.1) := sortKeys_perm h.perm h.sorted
theorem FI.mono (h : FI k room used files l) (hk : k ≤ k') (hs : k' ≤ 2199023255552) : FI k' room used files l :=
  ⟨h.perm, h.sorted, h.used, h.last, h.fits, h.room, Nat.le_trans h.cnt hk, Nat.le_trans h.sum hk, hs⟩
theorem FI.lastG (h : FI k room used files l) (name : DNm) : 0 ≤ (mapGet l name f0).2 ∧ (mapGet l name f0).2 ≤ ((mapGet l name f0).1.length : Int) := by
  cases hh : mapHas l name with
  | true => exact h.last _ (has_get h.keysL hh f0)
  | false => rw [get_no hh]; exact ⟨Int.le_refl _, Int.le_refl _⟩
theorem FI.lenG (h : FI k room used files l) (name : DNm) : (mapGet l name f0).1.length ≤ k := Nat.le_trans (sumL_get name) h.sum

theorem FI.lay (h : FI k room used files l) {name : DNm} {f : DFl} (h1 : ((sumL (rm name l) + f.1.length : Nat) : Int) ≤ room) (h2 : sumL (rm name l) + f.1.length ≤ k') (h3 : l.length + 1 ≤ k') (h4 : k' ≤ 2199023255552) (hf : 0 ≤ f.2 ∧ f.2 ≤ (f.1.length : Int)) :
    FI k' room (wr (used + wr ((f.1.length : Int) - ((mapGet files name f0).1.length : Int)))) (mapPut files name f) (insF (name, f) l) := by
  have hp : (mapPut files name f).Perm ((name, f) :: rm name l) := (put_perm h.keys name f).trans ((rm_perm h.perm name).cons _)
  have hi := insF_perm (name, f) l
  have hsum : sumL (insF (name, f) l) = f.1.length + sumL (rm name l) := by rw [sumL_perm hi]; rfl
  have hrm := sumL_rm h.keysL name
  have hs := h.sum
  have hsm := h.small
  rw [h.get]
  refine ⟨hp.trans hi.symm, insF_sorted h.sorted, ?_, fun p hp => ?_, ?_, h.room, ?_, ?_, h4⟩
  · rw [hsum, h.used]
    unfold wr
    have e1 : IntKind.i64.wrap ((f.1.length : Int) - ((mapGet l name f0).1.length : Int)) = (f.1.length : Int) - ((mapGet l name f0).1.length : Int) := wrap_i64 (by omega) (by omega)
    rw [e1, wrap_i64 (by omega) (by omega)]
    omega
  · rcases List.mem_cons.1 (hi.mem_iff.1 hp) with rfl | hp
    · exact hf
    · exact h.last p (rm_mem.1 hp).1
  · rw [hsum]; omega
  · rw [hi.length_eq]
    have := rm_len l name
    simp only [List.length_cons]; omega
  · rw [hsum]; omega

theorem FI.take (h : FI k room used files l) (name : DNm) : FI k room (wr (used - ((mapGet files name f0).1.length : Int))) (mapDel files name) (rm name l) := by
  have hrm := sumL_rm h.keysL name
  have hs := h.sum
  have hsm := h.small
  have hfit := h.fits
  rw [h.get, del_rm h.keys]
  refine ⟨rm_perm h.perm name, rm_sorted h.sorted name, ?_, fun p hp => h.last p (rm_mem.1 hp).1, by omega, h.room, Nat.le_trans (rm_len _ _) h.cnt, by omega, h.small⟩
  rw [h.used]
  unfold wr
  rw [wrap_i64 (by omega) (by omega)]
  omega

theorem rm_rm (a b : DNm) (l : DFs) : rm b (rm a l) = rm a (rm b l) := by
  unfold rm
  rw [List.filter_filter, List.filter_filter]
  congr 1
  funext p
  exact Bool.and_comm _ _
theorem insF_rm {f : DNm × DFl} : ∀ {l : DFs}, SortedF l → insF f (rm f.1 l) = insF f l
  | [], _ => rfl
  | g :: r, h => by
    obtain ⟨h1, h2⟩ := List.pairwise_cons.1 h
    by_cases e : g.1 = f.1
    · have e2 : rm f.1 (g :: r) = rm f.1 r := by simp [rm, e]
      have hr : rm f.1 r = r := rm_no fun q hq e' => lt_ne (h1 q hq) (by rw [e, e'])
      rw [e2, hr]
      have h3 : insF f (g :: r) = f :: rm f.1 (g :: r) := by unfold insF; rw [if_pos (by rw [e]; exact List.le_refl _)]
      rw [h3, e2, hr]
      cases r with
      | nil => rfl
      | cons q r =>
        have : f.1 ≤ q.1 := by rw [← e]; exact List.le_of_lt (h1 q List.mem_cons_self)
        unfold insF
        rw [if_pos this, hr]
    · rw [rm_cons_ne e]
      unfold insF
      split
      · rename_i hle
        rw [rm_cons_ne e, rm_cons_ne e]
        congr 2
        unfold rm
        rw [List.filter_filter]
        congr 1
        funext p
        simp
      · rw [insF_rm h2]
end

section
variable {k k' : Nat} {d : DD} {r : RS}

theorem Inv.mono (h : Inv k d r) (hk : k ≤ k') (hs : k' ≤ 2199023255552) : Inv k' d r :=
  ⟨h.room, h.steps, h.dead, h.left, h.pos, h.fi.mono hk hs, h.st.1, by have := h.st.2; omega⟩
theorem Inv.has (h : Inv k d r) (name : DNm) : mapHas d.files name = mapHas r.files name := h.fi.has name
theorem Inv.get (h : Inv k d r) (name : DNm) : dGet d name = rGet r name := h.fi.get name

theorem inv_new (n : Int) (hn : n < 9223372036854775808) : Inv 0 (dNew n) (rNew n) :=
  ⟨rfl, rfl, rfl, rfl, fun h => (by cases h), ⟨List.Perm.refl _, .nil, rfl, fun p hp => (by cases hp), (show (0 : Int) ≤ max n 0 by omega), (show max n 0 < _ by omega), Nat.le_refl _, Nat.le_refl _, by omega⟩, Int.le_refl _, Int.le_refl _⟩

theorem Inv.step (h : Inv k d r) (hs : k + 1 ≤ 2199023255552) : (dStep d).2 = (rStep r).2 ∧ Inv (k + 1) (dStep d).1 (rStep r).1 := by
  have hst := h.st
  have e : wr (d.steps + 1) = wr (r.steps + 1) := by rw [h.steps]
  have e2 : wr (r.steps + 1) = r.steps + 1 := wrap_i64 (by omega) (by omega)
  have hf := h.fi.mono (Nat.le_succ k) hs
  have hl := h.left
  have hS : (0 : Int) ≤ wr (r.steps + 1) ∧ wr (r.steps + 1) ≤ ((k + 1 : Nat) : Int) := by rw [e2]; omega
  unfold dStep rStep
  cases ha : r.armed with
  | false =>
    rw [ha] at hl
    simp only [cond_false] at hl
    rw [decide_eq_true hl]
    simp only [cond_true, cond_false]
    exact ⟨trivial, h.room, e, h.dead, by simpa [ha] using hl, fun h' => (by cases h'), hf, hS⟩
  | true =>
    rw [ha] at hl
    simp only [cond_true] at hl
    obtain ⟨p1, p2⟩ := h.pos ha
    rw [decide_eq_false (show ¬ d.left = -1 by omega)]
    simp only [cond_true, cond_false, hl]
    by_cases h0 : r.left = 0
    · rw [decide_eq_true h0]
      simp only [cond_true]
      exact ⟨trivial, h.room, e, rfl, rfl, fun _ => ⟨p1, p2⟩, hf, hS⟩
    · rw [decide_eq_false h0]
      simp only [cond_false]
      have e3 : wr (r.left - 1) = r.left - 1 := wrap_i64 (by omega) (by omega)
      exact ⟨trivial, h.room, e, h.dead, rfl, fun _ => (show 0 ≤ wr (r.left - 1) ∧ wr (r.left - 1) < 9223372036854775808 by rw [e3]; exact ⟨by omega, by omega⟩), hf, hS⟩

theorem dStep_files (d : DD) : (dStep d).1.files = d.files ∧ (dStep d).1.used = d.used ∧ (dStep d).1.room = d.room := by
  unfold dStep
  cases decide (d.left = -1) <;> cases decide (d.left = 0) <;> exact ⟨rfl, rfl, rfl⟩
theorem rStep_files (r : RS) : (rStep r).1.files = r.files ∧ (rStep r).1.room = r.room := by
  unfold rStep
  cases r.armed <;> cases decide (r.left = 0) <;> exact ⟨rfl, rfl⟩

/-- Other files. -/
theorem Inv.files (h : Inv k d r) {u : Int} {fs l : DFs} (hf : FI k' d.room u fs l) (hk : k ≤ k') : Inv k' { d with used := u, files := fs } { r with files := l } :=
  ⟨h.room, h.steps, h.dead, h.left, h.pos, hf, h.st.1, by have := h.st.2; show r.steps ≤ _; omega⟩

theorem Inv.lay (h : Inv k d r) {name : DNm} {f : DFl} (h1 : ((sumL (rm name r.files) + f.1.length : Nat) : Int) ≤ d.room) (h2 : sumL (rm name r.files) + f.1.length ≤ k') (hk : k + 1 ≤ k') (h4 : k' ≤ 2199023255552) (hf : 0 ≤ f.2 ∧ f.2 ≤ (f.1.length : Int)) :
    Inv k' (dLay d name f) (rWith r name f) :=
  h.files (h.fi.lay h1 h2 (by have := h.fi.cnt; omega) h4 hf) (by omega)
theorem Inv.take (h : Inv k d r) (name : DNm) : Inv k (dTake d name) { r with files := rm name r.files } := h.files (h.fi.take name) (Nat.le_refl _)

theorem Inv.free (h : Inv k d r) : wr (d.room - d.used) = rFree r := by
  have h1 := h.fi.used
  have h2 := h.fi.fits
  have h3 := h.fi.room
  unfold wr rFree
  rw [h1, ← h.room, wrap_i64 (by omega) (by omega)]

theorem Inv.append (h : Inv k d r) {name : DNm} {b : List UInt8} (hs : k + 2 + b.length ≤ 2199023255552) : (dAppend d name b).2 = (rAppend r name b).2 ∧ Inv (k + 2 + b.length) (dAppend d name b).1 (rAppend r name b).1 := by
  have hm := h.mono (k' := k + 2 + b.length) (by omega) hs
  have hb : Inv (k + 1 + b.length) d r := h.mono (by omega) (by omega)
  unfold dAppend rAppend
  rw [h.dead]
  cases hd : r.dead with
  | true => exact ⟨rfl, hm⟩
  | false =>
    cases hn : nameOk name with
    | false => exact ⟨rfl, hm⟩
    | true =>
      simp only [Bool.not_true, cond_false]
      rw [h.free]
      by_cases hfull : (b.length : Int) > rFree r
      · rw [decide_eq_true hfull]; exact ⟨rfl, hm⟩
      · rw [decide_eq_false hfull]
        simp only [cond_false]
        rw [h.get]
        have hg := h.fi.lastG name
        have hrm := sumL_rm h.fi.keysL name
        have hsum := h.fi.sum
        have hroom := h.room
        have hget : rGet r name = mapGet r.files name f0 := rfl
        have hlay := h.lay (name := name) (f := ((rGet r name).1 ++ b, (rGet r name).2)) (k' := k + 1 + b.length)
          (by simp only [List.length_append]; rw [hget]; unfold rFree at hfull; omega) (by simp only [List.length_append]; rw [hget]; omega) (by omega) (by omega) (by simp only [List.length_append]; rw [hget]; omega)
        obtain ⟨s1, s2⟩ := hlay.step (by omega)
        rw [s1]
        exact ⟨rfl, s2.mono (by omega) hs⟩

theorem Inv.do_ (h : Inv k d r) (hs : k + 2 ≤ 2199023255552) {why : DFl → Int} {done : DFl → DD → DD} {done' : DFl → DFs → DFs} (name : DNm)
    (hd : ∀ (d1 : DD) (r1 : RS), Inv (k + 1) d1 r1 → r1.files = r.files → mapHas r.files name = true → why (rGet r name) = 0 → Inv (k + 2) (done (rGet r name) d1) { r1 with files := done' (rGet r name) r.files }) :
    (dDo why done d name).2 = (rDo why done' r name).2 ∧ Inv (k + 2) (dDo why done d name).1 (rDo why done' r name).1 := by
  have hm := h.mono (k' := k + 2) (by omega) hs
  unfold dDo rDo
  rw [h.dead, h.has, h.get]
  cases hdead : r.dead with
  | true => exact ⟨rfl, hm⟩
  | false =>
    cases hh : mapHas r.files name with
    | false => exact ⟨rfl, hm⟩
    | true =>
      simp only [Bool.not_true, cond_false]
      by_cases hw : why (rGet r name) = 0
      · rw [decide_eq_true hw]
        simp only [Bool.not_true, cond_false]
        obtain ⟨s1, s2⟩ := h.step (by omega)
        rw [s1]
        cases hst : (rStep r).2 with
        | true => exact ⟨rfl, s2.mono (by omega) hs⟩
        | false => exact ⟨rfl, hd _ _ s2 (rStep_files r).1 hh hw⟩
      · rw [decide_eq_false hw]
        exact ⟨rfl, hm⟩

theorem Inv.sync (h : Inv k d r) (hs : k + 2 ≤ 2199023255552) (name : DNm) : (dSync d name).2 = (rSync r name).2 ∧ Inv (k + 2) (dSync d name).1 (rSync r name).1 := by
  refine h.do_ hs name fun d1 r1 h1 hfl hh hw => ?_
  have hrm := sumL_rm h1.fi.keysL name
  have hsum := h1.fi.sum
  have hfit := h1.fi.fits
  have hget : rGet r name = mapGet r1.files name f0 := by rw [hfl]; rfl
  rw [← hfl]
  exact h1.lay (by rw [hget]; simp only; omega) (by rw [hget]; simp only; omega) (by omega) hs ⟨by simp only; omega, by simp only; omega⟩
theorem Inv.trunc (h : Inv k d r) (hs : k + 2 ≤ 2199023255552) (name : DNm) (n : Int) : (dTrunc d name n).2 = (rTrunc r name n).2 ∧ Inv (k + 2) (dTrunc d name n).1 (rTrunc r name n).1 := by
  refine h.do_ hs name fun d1 r1 h1 hfl hh hw => ?_
  have hrm := sumL_rm h1.fi.keysL name
  have hsum := h1.fi.sum
  have hfit := h1.fi.fits
  have hg := h1.fi.lastG name
  have hget : rGet r name = mapGet r1.files name f0 := by rw [hfl]; rfl
  rw [← hfl]
  rw [hget] at hw ⊢
  have hn : 0 ≤ n ∧ n ≤ ((mapGet r1.files name f0).1.length : Int) := by
    unfold whyT at hw
    cases hc : decide (n < 0) || decide (n > ((mapGet r1.files name f0).1.length : Int)) with
    | true => rw [hc] at hw; cases hw
    | false =>
      simp only [Bool.or_eq_false_iff, decide_eq_false_iff_not] at hc
      exact ⟨by omega, by omega⟩
  have hl : ((mapGet r1.files name f0).1.take n.toNat).length = n.toNat := by rw [List.length_take]; omega
  exact h1.lay (by simp only [hl]; omega) (by simp only [hl]; omega) (by omega) hs ⟨by simp only; omega, by simp only [hl]; omega⟩
theorem Inv.remove (h : Inv k d r) (hs : k + 2 ≤ 2199023255552) (name : DNm) : (dRemove d name).2 = (rRemove r name).2 ∧ Inv (k + 2) (dRemove d name).1 (rRemove r name).1 := by
  refine h.do_ hs name fun d1 r1 h1 hfl hh hw => ?_
  rw [← hfl]
  exact (h1.take name).mono (by omega) hs
theorem Inv.rename (h : Inv k d r) (hs : k + 2 ≤ 2199023255552) (name to : DNm) : (dRename d name to).2 = (rRename r name to).2 ∧ Inv (k + 2) (dRename d name to).1 (rRename r name to).1 := by
  refine h.do_ hs name fun d1 r1 h1 hfl hh hw => ?_
  have hget : rGet r name = rGet r1 name := by unfold rGet; rw [hfl]
  rw [← hfl, hget, h1.get]
  have h2 := (h1.take name).take to
  have hrm := sumL_rm h1.fi.keysL name
  have hrm2 := sumL_rm (rm_keys h1.fi.keysL name) to
  have hg := h1.fi.lastG name
  have hsum := h1.fi.sum
  have hfit := h1.fi.fits
  have e : rGet r1 name = mapGet r1.files name f0 := rfl
  have e2 : rm to (rm to (rm name r1.files)) = rm to (rm name r1.files) := rm_no fun p hp => (rm_mem.1 hp).2
  have h3 := h2.lay (name := to) (f := rGet r1 name) (k' := k + 2) (by simp only [e2]; rw [e]; show _ ≤ d1.room; omega) (by simp only [e2]; rw [e]; omega) (by omega) hs (by rw [e]; exact hg)
  have e3 : insF (to, rGet r1 name) (rm to (rm name r1.files)) = insF (to, rGet r1 name) (rm name r1.files) := insF_rm (f := (to, rGet r1 name)) (rm_sorted h1.fi.sorted name)
  unfold rWith at h3
  rw [e3] at h3
  exact h3

theorem Inv.arm (h : Inv k d r) (n : Int) (hn : n < 9223372036854775808) : Inv k (dArm d n) (rArm r n) := by
  unfold dArm rArm
  rw [h.dead]
  cases hd : r.dead with
  | true => exact h
  | false =>
    simp only [Bool.not_false, cond_true]
    refine ⟨h.room, h.steps, rfl, ?_, fun hp => ?_, h.fi, h.st⟩
    · show max n (-1) = bif decide (n ≥ 0) then n else -1
      by_cases h0 : n ≥ 0
      · rw [decide_eq_true h0]; simp only [cond_true]; omega
      · rw [decide_eq_false h0]; simp only [cond_false]; omega
    · exact ⟨of_decide_eq_true hp, hn⟩
theorem Inv.wipe (h : Inv k d r) : Inv k (dWipe d) (rWipe r) :=
  h.files ⟨List.Perm.refl _, .nil, rfl, fun p hp => (by cases hp), (show ((sumL [] : Nat) : Int) ≤ d.room by have := h.fi.fits; simp only [sumL]; omega), h.fi.room, Nat.zero_le _, Nat.zero_le _, h.fi.small⟩ (Nat.le_refl _)

theorem turned_len (b : List UInt8) (a c : Int) : (turnedAt b a c).length = b.length := by unfold turnedAt; rw [List.length_set]
theorem Inv.flip (h : Inv k d r) (hs : k + 2 ≤ 2199023255552) (name : DNm) (a c : Int) : (dFlip d name a c).2 = (rFlip r name a c).2 ∧ Inv (k + 2) (dFlip d name a c).1 (rFlip r name a c).1 := by
  have hm := h.mono (k' := k + 2) (by omega) hs
  unfold dFlip rFlip
  rw [h.has, h.get]
  cases hc : flips (mapHas r.files name) (rGet r name) a c with
  | false => exact ⟨rfl, hm⟩
  | true =>
    refine ⟨rfl, ?_⟩
    simp only [cond_true]
    have hrm := sumL_rm h.fi.keysL name
    have hsum := h.fi.sum
    have hfit := h.fi.fits
    have hg := h.fi.lastG name
    have hget : rGet r name = mapGet r.files name f0 := rfl
    have h1 := h.fi.lay (name := name) (f := (turnedAt (rGet r name).1 a c, (rGet r name).2)) (k' := k + 2) (by simp only [turned_len]; rw [hget]; omega) (by simp only [turned_len]; rw [hget]; omega) (by have := h.fi.cnt; omega) hs (by simp only [turned_len]; rw [hget]; exact hg)
    have e : wr (d.used + wr (((turnedAt (rGet r name).1 a c).length : Int) - ((mapGet d.files name f0).1.length : Int))) = d.used := by
      have h2 : mapGet d.files name f0 = rGet r name := h.get name
      have h3 := h.fi.used
      have h4 := h.fi.small
      rw [h2, turned_len]
      unfold wr
      rw [Int.sub_self, show IntKind.i64.wrap 0 = 0 from rfl, Int.add_zero, wrap_i64 (by omega) (by omega)]
    simp only at h1
    rw [e] at h1
    exact h.files h1 (by omega)

theorem found_ok {f : DFl} (h : 0 ≤ f.2 ∧ f.2 ≤ (f.1.length : Int)) (keep : List Int) : f.2 ≤ found f keep ∧ found f keep ≤ (f.1.length : Int) := by
  unfold found; omega
theorem crash_names : ∀ (l : DFs) (keep : List Int), (crashF l keep).map (·.1) = l.map (·.1)
  | [], _ => rfl
  | p :: l, keep => by simp only [crashF, List.map_cons, crash_names l]
theorem crash_len (l : DFs) (keep : List Int) : (crashF l keep).length = l.length := by
  have := congrArg List.length (crash_names l keep)
  simpa using this
theorem crash_sum : ∀ (l : DFs) (keep : List Int), sumL (crashF l keep) ≤ sumL l
  | [], _ => Nat.le_refl _
  | p :: l, keep => by
    have := crash_sum l (keep.drop 1)
    simp only [crashF, sumL, List.length_take]
    omega
theorem crash_sorted {l : DFs} (h : SortedF l) (keep : List Int) : SortedF (crashF l keep) := by
  have h1 : (l.map (·.1)).Pairwise (· < ·) := List.pairwise_map.2 h
  rw [← crash_names l keep] at h1
  exact List.pairwise_map.1 h1
theorem crash_last : ∀ {l : DFs} {keep : List Int}, (∀ p ∈ l, 0 ≤ p.2.2 ∧ p.2.2 ≤ (p.2.1.length : Int)) → ∀ p ∈ crashF l keep, 0 ≤ p.2.2 ∧ p.2.2 = (p.2.1.length : Int)
  | [], _, _, p, hp => by cases hp
  | q :: l, keep, h, p, hp => by
    rcases List.mem_cons.1 hp with rfl | hp
    · have h1 := h q List.mem_cons_self
      have := found_ok h1 keep
      simp only [List.length_take]
      omega
    · exact crash_last (fun p hp => h p (List.mem_cons_of_mem _ hp)) p hp
theorem Inv.crash (h : Inv k d r) (keep : List Int) : Inv k (dCrash d r.files keep) (rCrash r keep) := by
  have h1 := crash_sum r.files keep
  have h2 := h.fi.sum
  have h3 := h.fi.fits
  refine ⟨h.room, rfl, rfl, rfl, fun h => (by cases h), ⟨List.Perm.refl _, crash_sorted h.fi.sorted keep, rfl, fun p hp => ?_, (show (sumL (crashF r.files keep) : Int) ≤ d.room by omega), h.fi.room, (show (crashF r.files keep).length ≤ k by rw [crash_len]; exact h.fi.cnt), (show sumL (crashF r.files keep) ≤ k by omega), h.fi.small⟩, Int.le_refl _, (show (0 : Int) ≤ (k : Int) by omega)⟩
  have := crash_last h.fi.last p hp
  omega
end
end Go.Hay
