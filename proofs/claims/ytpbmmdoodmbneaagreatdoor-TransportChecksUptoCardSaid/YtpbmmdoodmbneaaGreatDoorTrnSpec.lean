/- The plan of any moves is a valid one, in plain Lean. -/
import Derived.Test.YtpbmmdoodmbneaaGreatDoorBase
import Derived.Test.YtpbmmdoodmbneaaGreatDoorIdCmp
import Derived.Test.YtpbmmdoodmbneaaGreatDoorIdSpec

/- Transporters, distances, moves, trips: what the page says, in plain Lean. -/
namespace Go.Proofs.YtpbmmdoodmbneaaGreatDoor

structure Trk where
  name : List UInt8
  load : Int
  hours : Int
structure Mov where
  item : List UInt8
  frm : Int
  to : Int
  ready : Int
  mass : Int
structure Trp where
  item : List UInt8
  truck : List UInt8
  start : Int
  fin : Int
instance : Inhabited Trk := ⟨⟨[], 0, 0⟩⟩
instance : Inhabited Mov := ⟨⟨[], 0, 0, 0, 0⟩⟩
instance : Inhabited Trp := ⟨⟨[], [], 0, 0⟩⟩
instance : DecidableEq Trp := fun a b => decidable_of_iff (a.item = b.item ∧ a.truck = b.truck ∧ a.start = b.start ∧ a.fin = b.fin) (by cases a; cases b; simp)
def tki (l : List Trk) (k : Nat) : Trk := l.getD k default
def mvi (l : List Mov) (k : Nat) : Mov := l.getD k default
def tpi (l : List Trp) (k : Nat) : Trp := l.getD k default

/-! errors of a yard and its moves -/
/-- not behind a name -/
def notB : Option (List UInt8) → List UInt8 → Bool
  | none, _ => false
  | some q, n => decide (bytesC n q ≤ 0)
/-- the error of transporters behind one with a name -/
def trkE : Option (List UInt8) → List Trk → Int
  | _, [] => 0
  | p, t :: r => if nameB t.name = false then 6 else if t.load < 1 ∨ 1099511627776 < t.load ∨ t.hours < 1 ∨ 100 < t.hours then 9
    else if notB p t.name = true then 11 else trkE (some t.name) r
def wideB (n : Int) : Bool := decide (n < 0) || decide (10000 < n)
/-- row a: nothing to itself, and the same from there to here -/
def symB (d : List (List Int)) (a : Nat) : Bool := (List.range d.length).all fun b => (!(decide (a = b)) || gi (ri d a) b == 0) && gi (ri d a) b == gi (ri d b) a
def distE (d : List (List Int)) : Int :=
  if (d.any fun r => decide (r.length ≠ d.length)) = true then 17
  else if (d.any fun r => r.any wideB) = true then 9
  else if ((List.range d.length).all (symB d)) = true then 0 else 17
def yardE (tr : List Trk) (d : List (List Int)) : Int :=
  if 8 < tr.length ∨ 32 < d.length then 4 else if tr.length = 0 ∨ d.length = 0 then 3 else if trkE none tr ≠ 0 then trkE none tr else distE d
def hoursV (t : Trk) (d : List (List Int)) (f to : Int) : Int :=
  if t.hours < 1 ∨ 100 < t.hours ∨ f < 0 ∨ d.length ≤ f ∨ to < 0 ∨ (ri d f.toNat).length ≤ to then 0
  else if wideB (gi (ri d f.toNat) to.toNat) = true then 0 else max (t.hours * gi (ri d f.toNat) to.toNat) 1
def emptyV (t : Trk) (d : List (List Int)) (f to : Int) : Int := (t.hours * gi (ri d f.toNat) to.toNat + 1) / 2
def badM (n : Nat) (m : Mov) : Bool := decide (m.frm < 0) || decide (n ≤ m.frm) || decide (m.to < 0) || decide (n ≤ m.to) || decide (m.ready < 0) || decide (1048576 < m.ready) || decide (m.mass < 0) || decide (1099511627776 < m.mass)
/-- the error of moves behind others with these items -/
def movE (n : Nat) : List (List UInt8) → List Mov → Int
  | _, [] => 0
  | bs, m :: r => if idB m.item = false then 6 else if badM n m = true then 9 else if bs.contains m.item = true then 7 else movE n (bs ++ [m.item]) r
def inE (ms : List Mov) (tr : List Trk) (d : List (List Int)) : Int := if yardE tr d ≠ 0 then yardE tr d else if 128 < ms.length then 4 else movE d.length [] ms

/-! the plan -/
def cI (x y : Int) : Int := if x < y then -1 else if y < x then 1 else 0
theorem cI_ok : Ord3 cI := by
  refine ⟨fun x y => ?_, fun x y => ?_, fun x y z => ?_⟩ <;> unfold cI <;> (repeat' split) <;> omega
theorem cI_zero {x y : Int} (h : cI x y = 0) : x = y := by unfold cI at h; split at h; omega; split at h <;> omega
/-- moves by Ready, then by Item -/
def mC (a b : Mov) : Int := if cI a.ready b.ready = 0 then bytesC a.item b.item else cI a.ready b.ready
theorem mC_ok : Ord3 mC := then_ok (on_ok cI_ok Mov.ready) (on_ok bytesC_ok Mov.item)
theorem mC_item {a b : Mov} (h : mC a b = 0) : a.item = b.item := by
  unfold mC at h
  split at h
  · exact bytesC_zero h
  · exact absurd h ‹_›
def insM (x : Mov) : List Mov → List Mov
  | [] => [x]
  | y :: r => if mC x y < 0 then x :: y :: r else y :: insM x r
def srtM : List Mov → List Mov
  | [] => []
  | x :: r => insM x (srtM r)
def startV (t : Trk) (d : List (List Int)) (s : Option (Int × Int)) (m : Mov) : Int :=
  match s with | none => m.ready | some (pl, en) => max m.ready (en + emptyV t d pl m.frm)
def tripV (t : Trk) (d : List (List Int)) (s : Option (Int × Int)) (m : Mov) : Trp := ⟨m.item, t.name, startV t d s m, startV t d s m + hoursV t d m.frm m.to⟩
/-- the best one of the first k transporters -/
def bestF (tr : List Trk) (d : List (List Int)) (st : Nat → Option (Int × Int)) (m : Mov) : Nat → Option (Nat × Trp)
  | 0 => none
  | k + 1 => if (tki tr k).load < m.mass then bestF tr d st m k else
      match bestF tr d st m k with
      | none => some (k, tripV (tki tr k) d (st k) m)
      | some (j, y) => if (tripV (tki tr k) d (st k) m).fin < y.fin then some (k, tripV (tki tr k) d (st k) m) else some (j, y)
def upd (st : Nat → Option (Int × Int)) (k : Nat) (v : Int × Int) : Nat → Option (Int × Int) := fun i => if i = k then some v else st i
def planF (tr : List Trk) (d : List (List Int)) : List Mov → (Nat → Option (Int × Int)) → List Trp → Option (List Trp)
  | [], _, acc => some acc
  | m :: r, st, acc => match bestF tr d st m tr.length with
    | none => none
    | some (k, x) => planF tr d r (upd st k (m.to, x.fin)) (acc ++ [x])
def planO (ms : List Mov) (tr : List Trk) (d : List (List Int)) : Option (List Trp) := planF tr d (srtM ms) (fun _ => none) []
def planE (ms : List Mov) (tr : List Trk) (d : List (List Int)) : Int := if inE ms tr d ≠ 0 then inE ms tr d else match planO ms tr d with | none => 25 | some _ => 0
def planV (ms : List Mov) (tr : List Trk) (d : List (List Int)) : List Trp := if inE ms tr d ≠ 0 then [] else (planO ms tr d).getD []

/-! the check -/
def fndM (ms : List Mov) (x : List UInt8) : Option Mov := ms.find? fun m => m.item == x
def fndK (tr : List Trk) (x : List UInt8) : Option Trk := tr.find? fun t => t.name == x
/-- the error of a trip behind others -/
def oneE (ms : List Mov) (tr : List Trk) (d : List (List Int)) (bs : List Trp) (x : Trp) : Int :=
  match fndM ms x.item with
  | none => 8
  | some m => if (bs.any fun b => b.item == x.item) = true then 7 else
    match fndK tr x.truck with
    | none => 8
    | some t => if t.load < m.mass then 25 else if x.start < m.ready ∨ 1099511627776 < x.start then 15 else if x.fin ≠ x.start + hoursV t d m.frm m.to then 17 else 0
def onesE (ms : List Mov) (tr : List Trk) (d : List (List Int)) : List Trp → List Trp → Int
  | _, [] => 0
  | bs, x :: r => if oneE ms tr d bs x ≠ 0 then oneE ms tr d bs x else onesE ms tr d (bs ++ [x]) r
/-- behind all that do not start later -/
def insS (x : Trp) : List Trp → List Trp
  | [] => [x]
  | y :: r => if x.start < y.start then x :: y :: r else y :: insS x r
def srtS (l : List Trp) : List Trp := l.foldl (fun s x => insS x s) []
/-- a trip that is too early behind one that ends at place pl at time en -/
def ovB (ms : List Mov) (t : Trk) (d : List (List Int)) : Option (Int × Int) → List Trp → Bool
  | _, [] => false
  | s, x :: r => (match s with | none => false | some (pl, en) => decide (x.start < en + emptyV t d pl ((fndM ms x.item).getD default).frm)) || ovB ms t d (some (((fndM ms x.item).getD default).to, x.fin)) r
def ownS (l : List Trp) (t : Trk) : List Trp := (srtS l).filter fun x => x.truck == t.name
def chkTE (ms : List Mov) (tr : List Trk) (d : List (List Int)) (l : List Trp) : Int :=
  if inE ms tr d ≠ 0 then inE ms tr d else if l.length ≠ ms.length then 17 else if onesE ms tr d [] l ≠ 0 then onesE ms tr d [] l
  else if (tr.any fun t => ovB ms t d none (ownS l t)) = true then 19 else 0
def lastV : List Trp → Int
  | [] => 0
  | x :: r => r.foldl (fun n y => max n y.fin) x.fin
end Go.Proofs.YtpbmmdoodmbneaaGreatDoor

/- The two sorts of transport, in plain Lean: moves by Ready and Item; trips by Start, stable. -/
namespace Go.Proofs.YtpbmmdoodmbneaaGreatDoor

theorem insM_perm (x : Mov) : ∀ l, (insM x l).Perm (x :: l) := by
  intro l
  induction l with
  | nil => exact .refl _
  | cons y r ih =>
    unfold insM
    split
    · exact .refl _
    · exact (List.Perm.cons y ih).trans (.swap x y r)
theorem srtM_perm : ∀ l, (srtM l).Perm l := by
  intro l
  induction l with
  | nil => exact .refl _
  | cons x r ih => exact (insM_perm x _).trans (.cons x ih)
def leM (a b : Mov) : Prop := mC a b ≤ 0
theorem insM_sorted {x : Mov} : ∀ {l : List Mov}, l.Pairwise leM → (insM x l).Pairwise leM := by
  intro l
  induction l with
  | nil => intro _; exact List.pairwise_singleton _ _
  | cons y r ih =>
    intro h
    unfold insM
    have hy := List.pairwise_cons.1 h
    split
    · rename_i hx
      refine List.pairwise_cons.2 ⟨fun z hz => ?_, h⟩
      rcases List.mem_cons.1 hz with rfl | hz
      · exact Int.le_of_lt hx
      · exact Int.le_of_lt (mC_ok.lt_le hx (hy.1 z hz))
    · rename_i hx
      refine List.pairwise_cons.2 ⟨fun z hz => ?_, ih hy.2⟩
      rcases List.mem_cons.1 ((insM_perm x r).mem_iff.1 hz) with rfl | hz
      · have := mC_ok.anti y z; unfold leM; omega
      · exact hy.1 z hz
theorem srtM_sorted : ∀ l : List Mov, (srtM l).Pairwise leM := by
  intro l
  induction l with
  | nil => exact .nil
  | cons x r ih => exact insM_sorted ih
/-- moves with different items have one order -/
theorem srtM_uniq {l l' : List Mov} (h1 : l'.Perm l) (h2 : l'.Pairwise leM) (h3 : (l.map Mov.item).Nodup) : l' = srtM l := by
  refine List.Perm.eq_of_pairwise (le := leM) ?_ h2 (srtM_sorted l) (h1.trans (srtM_perm l).symm)
  intro a b ha hb h4 h5
  unfold leM at h4 h5
  have hz : mC a b = 0 := by have := mC_ok.anti a b; omega
  have hi := mC_item hz
  have ha' := h1.mem_iff.1 ha
  have hb' := (srtM_perm l).mem_iff.1 hb
  obtain ⟨i, hi1, rfl⟩ := List.mem_iff_getElem.1 ha'
  obtain ⟨j, hj1, rfl⟩ := List.mem_iff_getElem.1 hb'
  have := List.getElem_inj (h₀ := by simpa using hi1) (h₁ := by simpa using hj1) h3 |>.1 (by simpa using hi)
  subst this
  rfl

/-! trips by Start -/
def leS (a b : Trp) : Prop := a.start ≤ b.start
theorem insS_perm (x : Trp) : ∀ l, (insS x l).Perm (x :: l) := by
  intro l
  induction l with
  | nil => exact .refl _
  | cons y r ih =>
    unfold insS
    split
    · exact .refl _
    · exact (List.Perm.cons y ih).trans (.swap x y r)
theorem insS_sorted {x : Trp} : ∀ {l : List Trp}, l.Pairwise leS → (insS x l).Pairwise leS := by
  intro l
  induction l with
  | nil => intro _; exact List.pairwise_singleton _ _
  | cons y r ih =>
    intro h
    unfold insS
    have hy := List.pairwise_cons.1 h
    split
    · rename_i hx
      refine List.pairwise_cons.2 ⟨fun z hz => ?_, h⟩
      unfold leS
      rcases List.mem_cons.1 hz with rfl | hz
      · omega
      · have := hy.1 z hz; unfold leS at this; omega
    · rename_i hx
      refine List.pairwise_cons.2 ⟨fun z hz => ?_, ih hy.2⟩
      rcases List.mem_cons.1 ((insS_perm x r).mem_iff.1 hz) with rfl | hz
      · unfold leS; omega
      · exact hy.1 z hz
theorem insS_end {x : Trp} : ∀ {l : List Trp}, (∀ y ∈ l, y.start ≤ x.start) → insS x l = l ++ [x] := by
  intro l
  induction l with
  | nil => intro _; rfl
  | cons y r ih =>
    intro h
    unfold insS
    rw [if_neg (by have := h y (by simp); omega), ih fun z hz => h z (by simp [hz])]; rfl
theorem insS_front {x : Trp} : ∀ {l : List Trp}, (∀ y ∈ l, x.start < y.start) → insS x l = x :: l := by
  intro l h
  cases l with
  | nil => rfl
  | cons y r => unfold insS; rw [if_pos (h y (by simp))]
theorem insS_cons (x y : Trp) (r : List Trp) : insS x (y :: r) = if x.start < y.start then x :: y :: r else y :: insS x r := rfl
theorem insS_filter {p : Trp → Bool} {x : Trp} : ∀ {l : List Trp}, l.Pairwise leS → (insS x l).filter p = if p x = true then insS x (l.filter p) else l.filter p := by
  intro l
  induction l with
  | nil => intro _; simp [insS, List.filter_cons]
  | cons y r ih =>
    intro h
    have hy := List.pairwise_cons.1 h
    rw [insS_cons]
    by_cases hx : x.start < y.start
    · rw [if_pos hx, List.filter_cons]
      by_cases hp : p x = true
      · rw [if_pos hp, if_pos hp, insS_front]
        intro z hz
        have hz := (List.mem_filter.1 hz).1
        rcases List.mem_cons.1 hz with rfl | hz
        · exact hx
        · have := hy.1 z hz; unfold leS at this; omega
      · rw [if_neg hp, if_neg hp]
    · rw [if_neg hx, List.filter_cons, List.filter_cons, ih hy.2]
      by_cases hq : p y = true
      · rw [if_pos hq, if_pos hq]
        by_cases hp : p x = true
        · rw [if_pos hp, if_pos hp]
          rw [insS_cons, if_neg hx]
        · rw [if_neg hp, if_neg hp]
      · rw [if_neg hq, if_neg hq]
theorem foldS_sorted : ∀ (l s : List Trp), s.Pairwise leS → (l.foldl (fun s x => insS x s) s).Pairwise leS := by
  intro l
  induction l with
  | nil => intro s h; exact h
  | cons x r ih => intro s h; exact ih _ (insS_sorted h)
theorem foldS_filter {p : Trp → Bool} : ∀ (l s : List Trp), s.Pairwise leS → (l.foldl (fun s x => insS x s) s).filter p = (l.filter p).foldl (fun s x => insS x s) (s.filter p) := by
  intro l
  induction l with
  | nil => intro s _; rfl
  | cons x r ih =>
    intro s h
    rw [List.foldl_cons, ih _ (insS_sorted h), insS_filter h, List.filter_cons]
    split
    · rw [List.foldl_cons]
    · rfl
theorem srtS_filter (p : Trp → Bool) (l : List Trp) : (srtS l).filter p = srtS (l.filter p) := foldS_filter l [] .nil
theorem srtS_sorted (l : List Trp) : (srtS l).Pairwise leS := foldS_sorted l [] .nil
theorem foldS_id : ∀ (l s : List Trp), (s ++ l).Pairwise leS → l.foldl (fun s x => insS x s) s = s ++ l := by
  intro l
  induction l with
  | nil => intro s _; simp
  | cons x r ih =>
    intro s h
    rw [List.foldl_cons, insS_end, ih]
    · simp
    · simpa using h
    · intro y hy
      have := (List.pairwise_append.1 h).2.2 y hy x (by simp)
      exact this
/-- trips that are in order stay -/
theorem srtS_id {l : List Trp} (h : l.Pairwise leS) : srtS l = l := by
  have := foldS_id l [] (by simpa using h)
  simpa [srtS] using this
theorem foldS_perm : ∀ (l s : List Trp), (l.foldl (fun s x => insS x s) s).Perm (s ++ l) := by
  intro l
  induction l with
  | nil => intro s; simp
  | cons x r ih =>
    intro s
    rw [List.foldl_cons]
    refine (ih _).trans ?_
    refine ((insS_perm x s).append_right r).trans ?_
    rw [List.cons_append]
    exact List.perm_middle.symm
theorem srtS_perm (l : List Trp) : (srtS l).Perm l := by simpa [srtS] using foldS_perm l []
end Go.Proofs.YtpbmmdoodmbneaaGreatDoor

/- How a plan comes about, in plain Lean: a trip for each move, each by a transporter behind its trip before. -/
namespace Go.Proofs.YtpbmmdoodmbneaaGreatDoor

inductive Run (tr : List Trk) (d : List (List Int)) : List Mov → (Nat → Option (Int × Int)) → List Trp → Prop
  | nil (st) : Run tr d [] st []
  | cons (m : Mov) (r : List Mov) (st : Nat → Option (Int × Int)) (k : Nat) (ts : List Trp) (hk : k < tr.length) (hl : ¬ (tki tr k).load < m.mass)
      (h : Run tr d r (upd st k (m.to, (tripV (tki tr k) d (st k) m).fin)) ts) : Run tr d (m :: r) st (tripV (tki tr k) d (st k) m :: ts)
theorem bestF_some {tr : List Trk} {d : List (List Int)} {st : Nat → Option (Int × Int)} {m : Mov} : ∀ {n k : Nat} {x : Trp}, bestF tr d st m n = some (k, x) → k < n ∧ ¬ (tki tr k).load < m.mass ∧ x = tripV (tki tr k) d (st k) m := by
  intro n
  induction n with
  | zero => intro k x h; simp [bestF] at h
  | succ n ih =>
    intro k x h
    unfold bestF at h
    by_cases hl : (tki tr n).load < m.mass
    · rw [if_pos hl] at h
      obtain ⟨h1, h2⟩ := ih h
      exact ⟨by omega, h2⟩
    · rw [if_neg hl] at h
      cases hb : bestF tr d st m n with
      | none =>
        rw [hb] at h
        simp only [Option.some.injEq, Prod.mk.injEq] at h
        obtain ⟨rfl, rfl⟩ := h
        exact ⟨by omega, hl, rfl⟩
      | some jy =>
        obtain ⟨j, y⟩ := jy
        rw [hb] at h
        dsimp only at h
        obtain ⟨h1, h2⟩ := ih hb
        split at h
        · simp only [Option.some.injEq, Prod.mk.injEq] at h
          obtain ⟨rfl, rfl⟩ := h
          exact ⟨by omega, hl, rfl⟩
        · simp only [Option.some.injEq, Prod.mk.injEq] at h
          obtain ⟨rfl, rfl⟩ := h
          exact ⟨by omega, h2⟩
theorem planF_run {tr : List Trk} {d : List (List Int)} : ∀ {r : List Mov} {st : Nat → Option (Int × Int)} {acc l : List Trp}, planF tr d r st acc = some l → ∃ ts, l = acc ++ ts ∧ Run tr d r st ts := by
  intro r
  induction r with
  | nil =>
    intro st acc l h
    simp only [planF, Option.some.injEq] at h
    exact ⟨[], by rw [h]; simp, .nil st⟩
  | cons m r ih =>
    intro st acc l h
    unfold planF at h
    cases hb : bestF tr d st m tr.length with
    | none => rw [hb] at h; cases h
    | some kx =>
      obtain ⟨k, x⟩ := kx
      rw [hb] at h
      dsimp only at h
      obtain ⟨h1, h2, rfl⟩ := bestF_some hb
      obtain ⟨ts, e, hr⟩ := ih h
      exact ⟨_, by rw [e, List.append_assoc]; rfl, .cons m r st k ts h1 h2 hr⟩
theorem Run.items {tr : List Trk} {d : List (List Int)} {r : List Mov} {st : Nat → Option (Int × Int)} {ts : List Trp} (h : Run tr d r st ts) : ts.map Trp.item = r.map Mov.item := by
  induction h with
  | nil => rfl
  | cons m r st k ts hk hl h ih => rw [List.map_cons, List.map_cons, ih]; rfl
theorem Run.length {tr : List Trk} {d : List (List Int)} {r : List Mov} {st : Nat → Option (Int × Int)} {ts : List Trp} (h : Run tr d r st ts) : ts.length = r.length := by
  have := congrArg List.length h.items
  simpa using this

/-! a right yard -/
structure YardOK (tr : List Trk) (d : List (List Int)) : Prop where
  n1 : 1 ≤ tr.length
  n2 : tr.length ≤ 8
  d1 : 1 ≤ d.length
  d2 : d.length ≤ 32
  hr : ∀ t ∈ tr, 1 ≤ t.load ∧ t.load ≤ 1099511627776 ∧ 1 ≤ t.hours ∧ t.hours ≤ 100
  nm : (tr.map Trk.name).Pairwise fun a b => bytesC a b < 0
  sq : ∀ r ∈ d, r.length = d.length
  ds : ∀ r ∈ d, ∀ n ∈ r, 0 ≤ n ∧ n ≤ 10000
theorem trkE_ok : ∀ (tr : List Trk) (p : Option (List UInt8)), trkE p tr = 0 → (∀ t ∈ tr, 1 ≤ t.load ∧ t.load ≤ 1099511627776 ∧ 1 ≤ t.hours ∧ t.hours ≤ 100) ∧ (tr.map Trk.name).Pairwise (fun a b => bytesC a b < 0) ∧ ∀ q, p = some q → ∀ t ∈ tr, bytesC q t.name < 0 := by
  intro tr
  induction tr with
  | nil => intro p _; exact ⟨by simp, .nil, by simp⟩
  | cons t r ih =>
    intro p h
    unfold trkE at h
    split at h
    · cases h
    split at h
    · cases h
    rename_i h2
    split at h
    · cases h
    rename_i h3
    obtain ⟨a1, a2, a3⟩ := ih (some t.name) h
    have a3 := a3 t.name rfl
    have hq : ∀ q, p = some q → bytesC q t.name < 0 := by
      intro q hq
      subst hq
      unfold notB at h3
      simp at h3
      have := bytesC_ok.anti q t.name
      have := bytesC_ok.rng q t.name
      have := bytesC_ok.rng t.name q
      omega
    refine ⟨?_, ?_, ?_⟩
    · intro z hz
      rcases List.mem_cons.1 hz with rfl | hz
      · omega
      · exact a1 z hz
    · rw [List.map_cons]
      refine List.pairwise_cons.2 ⟨?_, a2⟩
      intro n hn
      obtain ⟨z, hz, rfl⟩ := List.mem_map.1 hn
      exact a3 z hz
    · intro q hq' z hz
      rcases List.mem_cons.1 hz with rfl | hz
      · exact hq q hq'
      · exact bytesC_ok.lt_le (hq q hq') (Int.le_of_lt (a3 z hz))
theorem yard_ok {tr : List Trk} {d : List (List Int)} (h : yardE tr d = 0) : YardOK tr d := by
  unfold yardE at h
  split at h
  · cases h
  split at h
  · cases h
  split at h
  · rename_i h1; exact absurd h h1
  rename_i h1 h2 h3
  obtain ⟨a1, a2, _⟩ := trkE_ok tr none (by simpa using h3)
  unfold distE at h
  split at h
  · cases h
  rename_i h4
  split at h
  · cases h
  rename_i h5
  refine ⟨by omega, by omega, by omega, by omega, a1, a2, ?_, ?_⟩
  · intro r hr
    simp only [List.any_eq_true, decide_eq_true_eq, not_exists, not_and, Decidable.not_not] at h4
    exact h4 r hr
  · intro r hr n hn
    simp only [List.any_eq_true, not_exists, not_and] at h5
    have := h5 r hr n hn
    unfold wideB at this
    simp at this
    omega
theorem YardOK.dist {tr : List Trk} {d : List (List Int)} (h : YardOK tr d) (a b : Nat) : 0 ≤ gi (ri d a) b ∧ gi (ri d a) b ≤ 10000 := by
  by_cases ha : a < d.length
  · by_cases hb : b < (ri d a).length
    · have h1 : ri d a ∈ d := by rw [ri_lt ha]; exact List.getElem_mem ha
      exact h.ds _ h1 _ (gi_mem hb)
    · have : gi (ri d a) b = 0 := by unfold gi; rw [List.getD_eq_getElem?_getD, List.getElem?_eq_none (by omega)]; rfl
      rw [this]; omega
  · have : ri d a = [] := by unfold ri; rw [List.getD_eq_getElem?_getD, List.getElem?_eq_none (by omega)]; rfl
    rw [this]
    have : gi [] b = 0 := by simp [gi]
    rw [this]; omega
theorem hours_range {tr : List Trk} {d : List (List Int)} (h : YardOK tr d) {t : Trk} (ht : t ∈ tr) (f to : Int) : 0 ≤ hoursV t d f to ∧ hoursV t d f to ≤ 1000000 := by
  obtain ⟨_, _, h1, h2⟩ := h.hr t ht
  have h3 := h.dist f.toNat to.toNat
  unfold hoursV
  split
  · omega
  · split
    · omega
    · generalize gi (ri d f.toNat) to.toNat = n at *
      have : t.hours * n ≤ 100 * 10000 := Int.mul_le_mul h2 h3.2 h3.1 (by omega)
      omega
theorem empty_range {tr : List Trk} {d : List (List Int)} (h : YardOK tr d) {t : Trk} (ht : t ∈ tr) (f to : Int) : 0 ≤ emptyV t d f to ∧ emptyV t d f to ≤ 500001 := by
  obtain ⟨_, _, h1, h2⟩ := h.hr t ht
  have h3 := h.dist f.toNat to.toNat
  unfold emptyV
  generalize gi (ri d f.toNat) to.toNat = n at *
  have h4 : t.hours * n ≤ 100 * 10000 := Int.mul_le_mul h2 h3.2 h3.1 (by omega)
  have h5 : 0 ≤ t.hours * n := Int.mul_nonneg (by omega) h3.1
  omega
theorem tki_mem {tr : List Trk} {k : Nat} (h : k < tr.length) : tki tr k ∈ tr := by
  have : tki tr k = tr[k] := by simp [tki, h]
  rw [this]; exact List.getElem_mem h
end Go.Proofs.YtpbmmdoodmbneaaGreatDoor

/- The plan step by step, in plain Lean: what the last trips of the transporters say; right moves. -/
namespace Go.Proofs.YtpbmmdoodmbneaaGreatDoor

/-! right moves -/
structure MovesOK (ms : List Mov) (n : Nat) : Prop where
  ln : ms.length ≤ 128
  nd : (ms.map Mov.item).Nodup
  rg : ∀ m ∈ ms, 0 ≤ m.frm ∧ m.frm < n ∧ 0 ≤ m.to ∧ m.to < n ∧ 0 ≤ m.ready ∧ m.ready ≤ 1048576 ∧ 0 ≤ m.mass ∧ m.mass ≤ 1099511627776
  id : ∀ m ∈ ms, idB m.item = true
theorem movE_ok : ∀ (n : Nat) (ms : List Mov) (bs : List (List UInt8)), movE n bs ms = 0 → (∀ m ∈ ms, 0 ≤ m.frm ∧ m.frm < n ∧ 0 ≤ m.to ∧ m.to < n ∧ 0 ≤ m.ready ∧ m.ready ≤ 1048576 ∧ 0 ≤ m.mass ∧ m.mass ≤ 1099511627776) ∧ (∀ m ∈ ms, idB m.item = true) ∧ (ms.map Mov.item).Nodup ∧ ∀ m ∈ ms, m.item ∉ bs := by
  intro n ms
  induction ms with
  | nil => intro bs _; simp
  | cons m r ih =>
    intro bs h
    unfold movE at h
    split at h
    · cases h
    rename_i h1
    split at h
    · cases h
    rename_i h2
    split at h
    · cases h
    rename_i h3
    obtain ⟨a1, a2, a3, a4⟩ := ih _ h
    refine ⟨?_, ?_, ?_, ?_⟩
    · intro x hx
      rcases List.mem_cons.1 hx with rfl | hx
      · unfold badM at h2; simp at h2; omega
      · exact a1 x hx
    · intro x hx
      rcases List.mem_cons.1 hx with rfl | hx
      · simpa using h1
      · exact a2 x hx
    · rw [List.map_cons, List.nodup_cons]
      refine ⟨fun hm => ?_, a3⟩
      obtain ⟨x, hx, e⟩ := List.mem_map.1 hm
      exact a4 x hx (by rw [e]; simp)
    · intro x hx
      rcases List.mem_cons.1 hx with rfl | hx
      · simpa using h3
      · intro hb; exact a4 x hx (by simp [hb])
theorem inE_ok {ms : List Mov} {tr : List Trk} {d : List (List Int)} (h : inE ms tr d = 0) : YardOK tr d ∧ MovesOK ms d.length := by
  unfold inE at h
  split at h
  · exact absurd h ‹_›
  rename_i hy
  split at h
  · cases h
  rename_i hl
  obtain ⟨a1, a2, a3, _⟩ := movE_ok _ _ _ h
  exact ⟨yard_ok (by simpa using hy), by omega, a3, a1, a2⟩
theorem MovesOK.perm {ms ms' : List Mov} {n : Nat} (h : MovesOK ms n) (hp : ms'.Perm ms) : MovesOK ms' n :=
  ⟨by rw [hp.length_eq]; exact h.ln, (hp.map Mov.item).nodup_iff.2 h.nd, fun m hm => h.rg m (hp.mem_iff.1 hm), fun m hm => h.id m (hp.mem_iff.1 hm)⟩

/-! the last trips -/
def stL (om : List Mov) (acc : List Trp) (last : List Int) (i : Nat) : Option (Int × Int) :=
  if gi last i ≤ 0 then none else some ((mvi om ((gi last i).toNat - 1)).to, (tpi acc ((gi last i).toNat - 1)).fin)
/-- numbers of trips that there are -/
def LastOK (last : List Int) (nt k : Nat) : Prop := last.length = nt ∧ ∀ i, i < nt → 0 ≤ gi last i ∧ gi last i ≤ k
theorem tpi_left {l : List Trp} {x : Trp} {k : Nat} (h : k < l.length) : tpi (l ++ [x]) k = tpi l k := by simp [tpi, List.getElem?_append_left h]
theorem tpi_last (l : List Trp) (x : Trp) : tpi (l ++ [x]) l.length = x := by simp [tpi]
theorem gi_out' {xs : List Int} {k : Nat} (h : xs.length ≤ k) : gi xs k = 0 := by simp [gi, List.getElem?_eq_none h]
theorem gi_set' {xs : List Int} {i k : Nat} {x : Int} (hi : i < xs.length) : gi (xs.set i x) k = if k = i then x else gi xs k := by
  unfold gi
  rw [List.getD_eq_getElem?_getD, List.getElem?_set]
  by_cases e : i = k
  · subst e; simp [hi]
  · rw [if_neg e, if_neg (fun h => e h.symm), List.getD_eq_getElem?_getD]
theorem LastOK.set {last : List Int} {nt k : Nat} (h : LastOK last nt k) {a : Nat} (ha : a < nt) : LastOK (last.set a ((k + 1 : Nat) : Int)) nt (k + 1) := by
  refine ⟨by simp [h.1], fun i hi => ?_⟩
  rw [gi_set' (by rw [h.1]; exact ha)]
  have := h.2 i hi
  split <;> omega
theorem stL_upd {om : List Mov} {acc : List Trp} {last : List Int} {nt : Nat} (h : LastOK last nt acc.length) {a : Nat} (ha : a < nt) (x : Trp) :
    stL om (acc ++ [x]) (last.set a ((acc.length + 1 : Nat) : Int)) = upd (stL om acc last) a ((mvi om acc.length).to, x.fin) := by
  funext i
  show stL om (acc ++ [x]) (last.set a ((acc.length + 1 : Nat) : Int)) i = if i = a then some ((mvi om acc.length).to, x.fin) else stL om acc last i
  unfold stL
  rw [gi_set' (by rw [h.1]; exact ha)]
  by_cases e : i = a
  · subst e
    rw [if_pos rfl, if_pos rfl, if_neg (by omega), Int.toNat_natCast, Nat.add_sub_cancel, tpi_last]
  · rw [if_neg e, if_neg e]
    by_cases hi : i < nt
    · have := h.2 i hi
      by_cases hz : gi last i ≤ 0
      · rw [if_pos hz, if_pos hz]
      · rw [if_neg hz, if_neg hz, tpi_left (by omega)]
    · rw [gi_out' (by rw [h.1]; omega), if_pos (Int.le_refl _), if_pos (Int.le_refl _)]
theorem stL_start (om : List Mov) (nt : Nat) : stL om [] (List.replicate nt 0) = fun _ => none := by
  funext i
  unfold stL
  have : gi (List.replicate nt 0) i = 0 := by
    by_cases h : i < nt
    · simp [gi, h]
    · exact gi_out' (by simpa using h)
  rw [this, if_pos (Int.le_refl _)]
theorem lastOK_start (nt : Nat) : LastOK (List.replicate nt 0) nt 0 := by
  refine ⟨by simp, fun i hi => ?_⟩
  have : gi (List.replicate nt 0) i = 0 := by simp [gi, hi]
  omega
/-- ends are small -/
def EndsOK (acc : List Trp) : Prop := ∀ i, i < acc.length → 0 ≤ (tpi acc i).fin ∧ (tpi acc i).fin ≤ 1048576 + (i + 1) * 1600000
theorem EndsOK.nil : EndsOK [] := fun i hi => by simp at hi
theorem EndsOK.snoc {acc : List Trp} {x : Trp} (h : EndsOK acc) (hx : 0 ≤ x.fin ∧ x.fin ≤ 1048576 + (acc.length + 1) * 1600000) : EndsOK (acc ++ [x]) := by
  intro i hi
  by_cases e : i < acc.length
  · rw [tpi_left e]; exact h i e
  · have : i = acc.length := by simp at hi; omega
    subst this
    rw [tpi_last]; exact hx
theorem trip_ends {tr : List Trk} {d : List (List Int)} (hY : YardOK tr d) {om : List Mov} {acc : List Trp} {last : List Int} (hL : LastOK last tr.length acc.length) (hE : EndsOK acc) {m : Mov} (hm : 0 ≤ m.ready ∧ m.ready ≤ 1048576) {i : Nat} (hi : i < tr.length) :
    0 ≤ startV (tki tr i) d (stL om acc last i) m ∧ startV (tki tr i) d (stL om acc last i) m ≤ 1048576 + acc.length * 1600000 + 500001 ∧
    (tripV (tki tr i) d (stL om acc last i) m).fin = startV (tki tr i) d (stL om acc last i) m + hoursV (tki tr i) d m.frm m.to := by
  have hmem := tki_mem hi
  refine ⟨?_, ?_, rfl⟩
  · unfold startV stL
    split
    · exact hm.1
    · exact Int.le_trans hm.1 (Int.le_max_left _ _)
  · unfold startV stL
    by_cases hz : gi last i ≤ 0
    · rw [if_pos hz]; dsimp only; omega
    · rw [if_neg hz]
      dsimp only
      have h1 := hL.2 i hi
      have h2 := hE ((gi last i).toNat - 1) (by omega)
      have h3 := empty_range hY hmem (mvi om ((gi last i).toNat - 1)).to m.frm
      omega
theorem bestF_bound {tr : List Trk} {d : List (List Int)} (hY : YardOK tr d) {om : List Mov} {acc : List Trp} {last : List Int} (hL : LastOK last tr.length acc.length) (hE : EndsOK acc) {m : Mov} (hm : 0 ≤ m.ready ∧ m.ready ≤ 1048576) {n k : Nat} {x : Trp}
    (hn : n ≤ tr.length) (h : bestF tr d (stL om acc last) m n = some (k, x)) : 0 ≤ x.fin ∧ x.fin ≤ 1048576 + (acc.length + 1) * 1600000 := by
  obtain ⟨h1, _, rfl⟩ := bestF_some h
  obtain ⟨a1, a2, a3⟩ := trip_ends (om := om) hY hL hE hm (show k < tr.length by omega)
  have a4 := hours_range hY (tki_mem (show k < tr.length by omega)) m.frm m.to
  rw [a3]
  omega
/-! bestF, one transporter more -/
theorem bestF_skip {tr : List Trk} {d : List (List Int)} {st : Nat → Option (Int × Int)} {m : Mov} {k : Nat} (h : (tki tr k).load < m.mass) : bestF tr d st m (k + 1) = bestF tr d st m k := by
  show (if _ then _ else _) = _
  rw [if_pos h]
theorem bestF_first {tr : List Trk} {d : List (List Int)} {st : Nat → Option (Int × Int)} {m : Mov} {k : Nat} (h : ¬ (tki tr k).load < m.mass) (hb : bestF tr d st m k = none) : bestF tr d st m (k + 1) = some (k, tripV (tki tr k) d (st k) m) := by
  show (if _ then _ else _) = _
  rw [if_neg h, hb]
theorem bestF_less {tr : List Trk} {d : List (List Int)} {st : Nat → Option (Int × Int)} {m : Mov} {k j : Nat} {y : Trp} (h : ¬ (tki tr k).load < m.mass) (hb : bestF tr d st m k = some (j, y)) (hl : (tripV (tki tr k) d (st k) m).fin < y.fin) : bestF tr d st m (k + 1) = some (k, tripV (tki tr k) d (st k) m) := by
  show (if _ then _ else _) = _
  rw [if_neg h, hb]; dsimp only; rw [if_pos hl]
theorem bestF_keep {tr : List Trk} {d : List (List Int)} {st : Nat → Option (Int × Int)} {m : Mov} {k j : Nat} {y : Trp} (h : ¬ (tki tr k).load < m.mass) (hb : bestF tr d st m k = some (j, y)) (hl : ¬ (tripV (tki tr k) d (st k) m).fin < y.fin) : bestF tr d st m (k + 1) = some (j, y) := by
  show (if _ then _ else _) = _
  rw [if_neg h, hb]; dsimp only; rw [if_neg hl]
theorem planF_at {tr : List Trk} {d : List (List Int)} {om : List Mov} {st : Nat → Option (Int × Int)} {acc : List Trp} {k : Nat} (h : k < om.length) :
    planF tr d (om.drop k) st acc = match bestF tr d st (mvi om k) tr.length with
      | none => none
      | some (j, x) => planF tr d (om.drop (k + 1)) (upd st j ((mvi om k).to, x.fin)) (acc ++ [x]) := by
  have e : mvi om k = om[k] := by simp [mvi, h]
  rw [List.drop_eq_getElem_cons h, ← e]; rfl
end Go.Proofs.YtpbmmdoodmbneaaGreatDoor

/- The plan of any moves is a valid one, in plain Lean. -/
namespace Go.Proofs.YtpbmmdoodmbneaaGreatDoor

theorem fndM_mem : ∀ {ms : List Mov} {m : Mov}, (ms.map Mov.item).Nodup → m ∈ ms → fndM ms m.item = some m := by
  intro ms
  induction ms with
  | nil => intro m _ h; cases h
  | cons y r ih =>
    intro m hn hm
    rw [List.map_cons, List.nodup_cons] at hn
    unfold fndM
    rw [List.find?_cons]
    rcases List.mem_cons.1 hm with rfl | hm
    · simp
    · have : (y.item == m.item) = false := by
        rw [beq_eq_false_iff_ne]; intro e; exact hn.1 (e ▸ List.mem_map.2 ⟨m, hm, rfl⟩)
      rw [this]
      exact ih hn.2 hm
theorem YardOK.names {tr : List Trk} {d : List (List Int)} (h : YardOK tr d) : (tr.map Trk.name).Nodup := by
  refine h.nm.imp ?_
  intro a b hab e
  subst e
  have := bytesC_ok.refl a
  omega
theorem fndK_aux : ∀ {tr : List Trk} {t : Trk}, (tr.map Trk.name).Nodup → t ∈ tr → fndK tr t.name = some t := by
  intro tr
  induction tr with
  | nil => intro m _ h; cases h
  | cons y r ih =>
    intro m hn hm
    rw [List.map_cons, List.nodup_cons] at hn
    unfold fndK
    rw [List.find?_cons]
    rcases List.mem_cons.1 hm with rfl | hm
    · simp
    · have : (y.name == m.name) = false := by
        rw [beq_eq_false_iff_ne]; intro e; exact hn.1 (e ▸ List.mem_map.2 ⟨m, hm, rfl⟩)
      rw [this]
      exact ih hn.2 hm
theorem fndK_mem {tr : List Trk} {d : List (List Int)} (h : YardOK tr d) {t : Trk} (ht : t ∈ tr) : fndK tr t.name = some t := fndK_aux h.names ht
theorem tki_name {tr : List Trk} {d : List (List Int)} (h : YardOK tr d) {a b : Nat} (ha : a < tr.length) (hb : b < tr.length) (e : (tki tr a).name = (tki tr b).name) : a = b := by
  have hn := List.pairwise_iff_getElem.1 h.names
  rcases Nat.lt_trichotomy a b with hlt | rfl | hlt
  · exact absurd (by simpa [tki, ha, hb] using e) (hn a b (by simpa using ha) (by simpa using hb) hlt)
  · rfl
  · exact absurd (by simpa [tki, ha, hb] using e.symm) (hn b a (by simpa using hb) (by simpa using ha) hlt)
theorem start_ge (t : Trk) (d : List (List Int)) (s : Option (Int × Int)) (m : Mov) : m.ready ≤ startV t d s m := by
  unfold startV
  split
  · exact Int.le_refl _
  · omega
theorem run_ones {ms : List Mov} {tr : List Trk} {d : List (List Int)} (hY : YardOK tr d) (hM : MovesOK ms d.length) {r : List Mov} {st : Nat → Option (Int × Int)} {ts : List Trp} (h : Run tr d r st ts) :
    ∀ (bs : List Trp) (B : Int), (∀ m ∈ r, m ∈ ms) → (r.map Mov.item).Nodup → (∀ b ∈ bs, b.item ∉ r.map Mov.item) → (∀ k p e, st k = some (p, e) → e ≤ B) → 1048576 ≤ B → B + r.length * 1600000 ≤ 1099511627776 → onesE ms tr d bs ts = 0 := by
  induction h with
  | nil => intros; rfl
  | cons m r st k ts hk hl h ih =>
    intro bs B hr hn hb hs hB1 hB2
    rw [List.map_cons, List.nodup_cons] at hn
    have hm : m ∈ ms := hr m (by simp)
    have ht := tki_mem hk
    have hst := start_ge (tki tr k) d (st k) m
    have hrg := hM.rg m hm
    have hen : startV (tki tr k) d (st k) m ≤ B + 500001 := by
      unfold startV
      split
      · omega
      · rename_i p e he
        have h1 := hs k p e he
        have h2 := empty_range hY ht p m.frm
        omega
    have hho := hours_range hY ht m.frm m.to
    have h1 : oneE ms tr d bs (tripV (tki tr k) d (st k) m) = 0 := by
      unfold oneE
      rw [show (tripV (tki tr k) d (st k) m).item = m.item from rfl, show (tripV (tki tr k) d (st k) m).truck = (tki tr k).name from rfl, fndM_mem hM.nd hm, fndK_mem hY ht]
      dsimp only
      rw [if_neg, if_neg hl, if_neg, if_neg]
      · intro hne; exact hne rfl
      · show ¬ (startV (tki tr k) d (st k) m < m.ready ∨ 1099511627776 < startV (tki tr k) d (st k) m)
        rw [List.length_cons] at hB2
        omega
      · rw [Bool.not_eq_true, List.any_eq_false]
        intro b hbb he
        exact hb b hbb (by rw [eq_of_beq he]; simp)
    unfold onesE
    rw [if_neg (by rw [h1]; simp)]
    refine ih _ (B + 1600000) (fun x hx => hr x (List.mem_cons_of_mem _ hx)) hn.2 ?_ ?_ (by omega) (by rw [List.length_cons] at hB2; omega)
    · intro b hbb hx
      rcases List.mem_append.1 hbb with hbb | hbb
      · exact hb b hbb (by rw [List.map_cons]; exact List.mem_cons_of_mem _ hx)
      · rw [List.mem_singleton] at hbb
        subst hbb
        exact hn.1 hx
    · intro k' p e he
      unfold upd at he
      split at he
      · simp only [Option.some.injEq, Prod.mk.injEq] at he
        have : e = startV (tki tr k) d (st k) m + hoursV (tki tr k) d m.frm m.to := he.2.symm
        omega
      · have := hs k' p e he; omega
theorem run_own {ms : List Mov} {tr : List Trk} {d : List (List Int)} (hY : YardOK tr d) (hM : MovesOK ms d.length) {k0 : Nat} (h0 : k0 < tr.length) {r : List Mov} {st : Nat → Option (Int × Int)} {ts : List Trp} (h : Run tr d r st ts) :
    (∀ m ∈ r, m ∈ ms) → ovB ms (tki tr k0) d (st k0) (ts.filter fun x => x.truck == (tki tr k0).name) = false ∧ (ts.filter fun x => x.truck == (tki tr k0).name).Pairwise leS ∧
      ∀ x ∈ ts.filter fun x => x.truck == (tki tr k0).name, ∀ p e, st k0 = some (p, e) → e ≤ x.start := by
  induction h with
  | nil st => intro _; exact ⟨by cases st k0 <;> rfl, .nil, by simp⟩
  | cons m r st k ts hk hl h ih =>
    intro hr
    obtain ⟨i1, i2, i3⟩ := ih fun x hx => hr x (List.mem_cons_of_mem _ hx)
    have hm : m ∈ ms := hr m (by simp)
    have ht := tki_mem hk
    have hho := hours_range hY ht m.frm m.to
    by_cases e : k = k0
    · subst e
      have hx0 : ∀ p e, st k = some (p, e) → e + emptyV (tki tr k) d p m.frm ≤ startV (tki tr k) d (st k) m := by
        intro p e he
        rw [he]
        show _ ≤ max m.ready (e + emptyV (tki tr k) d p m.frm)
        omega
      rw [List.filter_cons, if_pos (by show ((tki tr k).name == (tki tr k).name) = true; simp)]
      have hu : upd st k (m.to, (tripV (tki tr k) d (st k) m).fin) k = some (m.to, (tripV (tki tr k) d (st k) m).fin) := by unfold upd; rw [if_pos rfl]
      rw [hu] at i1 i3
      have hf : (fndM ms (tripV (tki tr k) d (st k) m).item).getD default = m := by
        rw [show (tripV (tki tr k) d (st k) m).item = m.item from rfl, fndM_mem hM.nd hm]; rfl
      have hle : ∀ y ∈ ts.filter fun x => x.truck == (tki tr k).name, (tripV (tki tr k) d (st k) m).start ≤ y.start := by
        intro y hy
        have := i3 y hy _ _ rfl
        have h2 : (tripV (tki tr k) d (st k) m).fin = (tripV (tki tr k) d (st k) m).start + hoursV (tki tr k) d m.frm m.to := rfl
        omega
      refine ⟨?_, List.pairwise_cons.2 ⟨hle, i2⟩, ?_⟩
      · unfold ovB
        rw [hf, Bool.or_eq_false_iff]
        refine ⟨?_, i1⟩
        split
        · rfl
        · rename_i p e he
          rw [decide_eq_false_iff_not]
          have := hx0 p e he
          show ¬ (startV (tki tr k) d (st k) m < _)
          omega
      · intro y hy p e he
        have h1 := hx0 p e he
        have h2 := empty_range hY ht p m.frm
        have h3 : (tripV (tki tr k) d (st k) m).start = startV (tki tr k) d (st k) m := rfl
        rcases List.mem_cons.1 hy with rfl | hy
        · omega
        · have := hle y hy; omega
    · rw [List.filter_cons, if_neg (by
        show ¬ ((tki tr k).name == (tki tr k0).name) = true
        intro he; exact e (tki_name hY hk h0 (eq_of_beq he)))]
      have hu : upd st k (m.to, (tripV (tki tr k) d (st k) m).fin) k0 = st k0 := by unfold upd; rw [if_neg (fun h => e h.symm)]
      rw [hu] at i1 i3
      exact ⟨i1, i2, i3⟩
theorem planV_err {ms : List Mov} {tr : List Trk} {d : List (List Int)} (h : planE ms tr d ≠ 0) : planV ms tr d = [] := by
  unfold planE at h
  unfold planV
  split
  · rfl
  · rename_i h1
    rw [if_neg h1] at h
    cases hp : planO ms tr d with
    | none => rfl
    | some l => rw [hp] at h; exact absurd rfl h
theorem plan_valid {ms : List Mov} {tr : List Trk} {d : List (List Int)} (h : planE ms tr d = 0) : chkTE ms tr d (planV ms tr d) = 0 := by
  unfold planE at h
  unfold planV
  split at h
  · exact absurd h ‹_›
  rename_i h1
  rw [if_neg h1]
  have hin : inE ms tr d = 0 := by simpa using h1
  obtain ⟨hY, hM⟩ := inE_ok hin
  cases hp : planO ms tr d with
  | none => rw [hp] at h; cases h
  | some l =>
    show chkTE ms tr d l = 0
    obtain ⟨ts, e, hr⟩ := planF_run hp
    rw [List.nil_append] at e
    subst e
    have hpm := srtM_perm ms
    have hmem : ∀ m ∈ srtM ms, m ∈ ms := fun m hm => hpm.mem_iff.1 hm
    have hlen : l.length = ms.length := by rw [hr.length, hpm.length_eq]
    unfold chkTE
    rw [if_neg h1, if_neg (by simp [hlen])]
    have ho : onesE ms tr d [] l = 0 := by
      refine run_ones hY hM hr [] 1048576 hmem ((hpm.map Mov.item).nodup_iff.2 hM.nd) (by simp) (by simp) (by omega) ?_
      have := hM.ln
      rw [hpm.length_eq]
      omega
    rw [if_neg (by simp [ho]), if_neg]
    rw [Bool.not_eq_true, List.any_eq_false]
    intro t ht
    obtain ⟨k0, h0, rfl⟩ := List.mem_iff_getElem.1 ht
    have e0 : tr[k0] = tki tr k0 := by simp [tki, h0]
    rw [e0, Bool.not_eq_true]
    obtain ⟨o1, o2, _⟩ := run_own hY hM h0 hr hmem
    unfold ownS
    rw [srtS_filter, srtS_id o2]
    exact o1
theorem foldmax_ge : ∀ (r : List Trp) (n : Int), n ≤ r.foldl (fun n y => max n y.fin) n ∧ ∀ x ∈ r, x.fin ≤ r.foldl (fun n y => max n y.fin) n := by
  intro r
  induction r with
  | nil => intro n; simp
  | cons y r ih =>
    intro n
    rw [List.foldl_cons]
    obtain ⟨h1, h2⟩ := ih (max n y.fin)
    refine ⟨by omega, ?_⟩
    intro x hx
    rcases List.mem_cons.1 hx with rfl | hx
    · omega
    · exact h2 x hx
theorem last_ge {l : List Trp} {x : Trp} (h : x ∈ l) : x.fin ≤ lastV l := by
  cases l with
  | nil => cases h
  | cons y r =>
    unfold lastV
    obtain ⟨h1, h2⟩ := foldmax_ge r y.fin
    rcases List.mem_cons.1 h with rfl | h
    · exact h1
    · exact h2 x h
end Go.Proofs.YtpbmmdoodmbneaaGreatDoor
