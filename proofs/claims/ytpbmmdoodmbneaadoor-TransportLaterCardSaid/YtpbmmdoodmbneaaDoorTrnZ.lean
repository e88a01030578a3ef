/- A valid plan whose trips begin later, and whose moves are ready later, in plain Lean. -/
import Derived.Test.YtpbmmdoodmbneaaDoorQTrnBound
namespace Go.Proofs.YtpbmmdoodmbneaaDoor

def shT (n : Int) (x : Trp) : Trp := ⟨x.item, x.truck, x.start + n, x.fin + n⟩
def shX (n : Int) (l : List Trp) : List Trp := l.map (shT n)
def shV (k : Int) (m : Mov) : Mov := ⟨m.item, m.frm, m.to, m.ready + k, m.mass⟩
def shM (k : Int) (ms : List Mov) : List Mov := ms.map (shV k)
theorem shM_zero (ms : List Mov) : shM 0 ms = ms := by
  unfold shM
  have : shV 0 = id := by funext m; cases m; simp [shV]
  rw [this, List.map_id]
theorem movE_sh {n : Nat} {k : Int} (hk : 0 ≤ k) : ∀ {ms : List Mov} {bs : List (List UInt8)}, movE n bs ms = 0 → (∀ m ∈ ms, m.ready + k ≤ 1048576) → movE n bs (shM k ms) = 0 := by
  intro ms
  induction ms with
  | nil => intro bs _ _; rfl
  | cons m r ih =>
    intro bs h hr
    unfold movE at h
    split at h
    · cases h
    rename_i h1
    split at h
    · cases h
    rename_i h2
    split at h
    · cases h
    rename_i h3
    show movE n bs (shV k m :: shM k r) = 0
    unfold movE
    have hb : badM n (shV k m) = false := by
      have := hr m (by simp)
      have h4 : badM n m = false := by simpa using h2
      simp only [badM, Bool.or_eq_false_iff, decide_eq_false_iff_not] at h4 ⊢
      simp only [shV]
      omega
    rw [if_neg (by exact h1), if_neg (by rw [hb]; decide), if_neg (by exact h3)]
    exact ih h fun x hx => hr x (List.mem_cons_of_mem _ hx)
theorem inE_sh {ms : List Mov} {tr : List Trk} {d : List (List Int)} {k : Int} (hk : 0 ≤ k) (h : inE ms tr d = 0) (hr : ∀ m ∈ ms, m.ready + k ≤ 1048576) : inE (shM k ms) tr d = 0 := by
  unfold inE at h ⊢
  split at h
  · exact absurd h ‹_›
  rename_i h1
  split at h
  · cases h
  rename_i h2
  rw [if_neg h1, if_neg (by unfold shM; simpa using h2)]
  exact movE_sh hk h hr
theorem fndM_sh (k : Int) (x : List UInt8) : ∀ ms : List Mov, fndM (shM k ms) x = (fndM ms x).map (shV k) := by
  intro ms
  induction ms with
  | nil => rfl
  | cons m r ih =>
    unfold fndM shM at *
    rw [List.map_cons, List.find?_cons, List.find?_cons, show (shV k m).item = m.item from rfl]
    cases m.item == x
    · exact ih
    · rfl
theorem ones_sh {ms : List Mov} {tr : List Trk} {d : List (List Int)} {k n : Int} (hk : k ≤ n) : ∀ {l bs : List Trp}, onesE ms tr d bs l = 0 → (∀ x ∈ l, x.start + n ≤ 1099511627776) → onesE (shM k ms) tr d (shX n bs) (shX n l) = 0 := by
  intro l
  induction l with
  | nil => intro bs _ _; rfl
  | cons x r ih =>
    intro bs h hr
    unfold onesE at h
    split at h
    · exact absurd h ‹_›
    rename_i h1
    obtain ⟨m, t, a1, a2, a3, a4, a5, a6, a7⟩ := oneE_zero (by simpa using h1)
    have hx := hr x (by simp)
    have h2 : oneE (shM k ms) tr d (shX n bs) (shT n x) = 0 := by
      unfold oneE
      rw [show (shT n x).item = x.item from rfl, show (shT n x).truck = x.truck from rfl, fndM_sh, a1, a2]
      dsimp only [Option.map_some]
      rw [if_neg, if_neg, if_neg, if_neg]
      · show ¬ (x.fin + n ≠ x.start + n + hoursV t d m.frm m.to)
        omega
      · show ¬ (x.start + n < m.ready + k ∨ 1099511627776 < x.start + n)
        omega
      · show ¬ (t.load < m.mass)
        omega
      · rw [Bool.not_eq_true, List.any_eq_false]
        intro b hb
        obtain ⟨b', hb', rfl⟩ := List.mem_map.1 hb
        intro e
        exact a3 b' hb' (eq_of_beq e)
    show onesE (shM k ms) tr d (shX n bs) (shT n x :: shX n r) = 0
    unfold onesE
    rw [if_neg (by rw [h2]; simp)]
    have := ih h fun y hy => hr y (List.mem_cons_of_mem _ hy)
    rwa [show shX n (bs ++ [x]) = shX n bs ++ [shT n x] by unfold shX; simp] at this
theorem insS_sh (n : Int) (x : Trp) : ∀ l : List Trp, insS (shT n x) (shX n l) = shX n (insS x l) := by
  intro l
  induction l with
  | nil => rfl
  | cons y r ih =>
    show insS (shT n x) (shT n y :: shX n r) = _
    rw [insS_cons, insS_cons]
    by_cases h : x.start < y.start
    · rw [if_pos h, if_pos (by show x.start + n < y.start + n; omega)]; rfl
    · rw [if_neg h, if_neg (by show ¬ x.start + n < y.start + n; omega), ih]; rfl
theorem foldS_sh (n : Int) : ∀ (l s : List Trp), (shX n l).foldl (fun s x => insS x s) (shX n s) = shX n (l.foldl (fun s x => insS x s) s) := by
  intro l
  induction l with
  | nil => intro s; rfl
  | cons x r ih =>
    intro s
    show (shT n x :: shX n r).foldl _ _ = _
    rw [List.foldl_cons, List.foldl_cons, insS_sh, ih]
theorem own_sh (n : Int) (l : List Trp) (t : Trk) : ownS (shX n l) t = shX n (ownS l t) := by
  unfold ownS srtS
  have := foldS_sh n l []
  rw [show shX n [] = [] from rfl] at this
  rw [this]
  unfold shX
  rw [List.filter_map]
  rfl
theorem ov_sh {ms : List Mov} {d : List (List Int)} (t : Trk) (k n : Int) : ∀ (l : List Trp) (s : Option (Int × Int)), ovB (shM k ms) t d (s.map fun p => (p.1, p.2 + n)) (shX n l) = ovB ms t d s l := by
  intro l
  induction l with
  | nil => intro s; cases s <;> rfl
  | cons x r ih =>
    intro s
    have hf : ((fndM (shM k ms) (shT n x).item).getD default).frm = ((fndM ms x.item).getD default).frm := by
      rw [show (shT n x).item = x.item from rfl, fndM_sh]; cases fndM ms x.item <;> rfl
    have ht : ((fndM (shM k ms) (shT n x).item).getD default).to = ((fndM ms x.item).getD default).to := by
      rw [show (shT n x).item = x.item from rfl, fndM_sh]; cases fndM ms x.item <;> rfl
    have h2 := ih (some (((fndM ms x.item).getD default).to, x.fin))
    show ovB (shM k ms) t d _ (shT n x :: shX n r) = _
    unfold ovB
    rw [hf, ht]
    have h3 : ovB (shM k ms) t d (some (((fndM ms x.item).getD default).to, (shT n x).fin)) (shX n r) = ovB ms t d (some (((fndM ms x.item).getD default).to, x.fin)) r := h2
    rw [h3]
    congr 1
    cases s with
    | none => rfl
    | some p =>
      obtain ⟨pl, en⟩ := p
      show decide (x.start + n < en + n + emptyV t d pl ((fndM ms x.item).getD default).frm) = decide (x.start < en + emptyV t d pl ((fndM ms x.item).getD default).frm)
      rw [decide_eq_decide]
      omega
theorem shift_ok {ms : List Mov} {tr : List Trk} {d : List (List Int)} {l : List Trp} {k n : Int} (hk : 0 ≤ k) (hkn : k ≤ n) (h : chkTE ms tr d l = 0) (hr : ∀ m ∈ ms, m.ready + k ≤ 1048576) (hx : ∀ x ∈ l, x.start + n ≤ 1099511627776) : chkTE (shM k ms) tr d (shX n l) = 0 := by
  unfold chkTE at h
  split at h
  · exact absurd h ‹_›
  rename_i h1
  split at h
  · cases h
  rename_i h2
  split at h
  · exact absurd h ‹_›
  rename_i h3
  split at h
  · cases h
  rename_i h4
  have i1 := inE_sh hk (by simpa using h1) hr
  have i3 := ones_sh hkn (by simpa using h3) hx
  rw [show shX n [] = [] from rfl] at i3
  unfold chkTE
  rw [if_neg (by rw [i1]; simp), if_neg (by unfold shX shM; simpa using h2), if_neg (by rw [i3]; simp), if_neg]
  intro hb
  refine h4 ?_
  obtain ⟨t, ht, hv⟩ := List.any_eq_true.1 hb
  refine List.any_eq_true.2 ⟨t, ht, ?_⟩
  rw [own_sh] at hv
  have := ov_sh (ms := ms) (d := d) t k n (ownS l t) none
  rw [← this]
  exact hv
theorem later_ok {ms : List Mov} {tr : List Trk} {d : List (List Int)} {l : List Trp} {n : Int} (hn : 0 ≤ n) (h : chkTE ms tr d l = 0) (hx : ∀ x ∈ l, x.start + n ≤ 1099511627776) : chkTE ms tr d (shX n l) = 0 := by
  have hr : ∀ m ∈ ms, m.ready + 0 ≤ 1048576 := fun m hm => by have := ((bound_ok h).2.1 m hm).1; omega
  have := shift_ok (Int.le_refl 0) hn h hr hx
  rwa [shM_zero] at this
theorem fold_sh (n : Int) : ∀ (r : List Trp) (a : Int), (shX n r).foldl (fun n y => max n y.fin) (a + n) = r.foldl (fun n y => max n y.fin) a + n := by
  intro r
  induction r with
  | nil => intro a; rfl
  | cons y r ih =>
    intro a
    show (shT n y :: shX n r).foldl _ _ = _
    rw [List.foldl_cons, List.foldl_cons, ← ih]
    congr 1
    show max (a + n) (y.fin + n) = max a y.fin + n
    omega
theorem last_sh {l : List Trp} (n : Int) (h : 0 < l.length) : lastV (shX n l) = lastV l + n := by
  cases l with
  | nil => simp at h
  | cons x r => exact fold_sh n r x.fin
theorem early_ok {ms : List Mov} {tr : List Trk} {d : List (List Int)} {x e : Trp} {r : List Trp} (h : chkTE ms tr d (x :: r) = 0) (h1 : e.item = x.item) (h2 : e.truck = x.truck) (h3 : e.start < x.start - 1099511627776) : chkTE ms tr d (e :: r) = 15 := by
  have hrd := (bound_ok h).2.1
  unfold chkTE at h
  split at h
  · exact absurd h ‹_›
  rename_i g1
  split at h
  · cases h
  rename_i g2
  split at h
  · exact absurd h ‹_›
  rename_i g3
  unfold chkTE
  rw [if_neg g1, if_neg (by simpa using g2)]
  have ho : onesE ms tr d [] (e :: r) = 15 := by
    unfold onesE at g3
    have g4 : oneE ms tr d [] x = 0 := by
      by_cases hz : oneE ms tr d [] x = 0
      · exact hz
      · rw [if_pos hz] at g3; exact absurd hz g3
    obtain ⟨m, t, a1, a2, a3, a4, a5, a6, a7⟩ := oneE_zero g4
    have hm := hrd m (fndM_some a1).1
    have : oneE ms tr d [] e = 15 := by
      unfold oneE
      rw [h1, h2, a1, a2]
      dsimp only
      rw [if_neg (by simp), if_neg (by omega), if_pos (by omega)]
    unfold onesE
    rw [if_pos (by rw [this]; decide), this]
  rw [if_pos (by rw [ho]; decide), ho]
end Go.Proofs.YtpbmmdoodmbneaaDoor
