/- The stable sort of trips by Start: what it leaves is the list of trips in the page's order. Contract: slices.SortStableFunc at trips. -/
import Derived.Test.YtpbmmdoodmbneaaGreatDoorTrnT
namespace Go.Proofs.YtpbmmdoodmbneaaGreatDoor
open Go.RowKit

section
variable (T : Int → Trp)
/-- the insertion of numbers -/
def insI (x : Int) : List Int → List Int
  | [] => [x]
  | y :: r => if (T x).start < (T y).start then x :: y :: r else y :: insI x r
theorem insI_map (x : Int) : ∀ l, (insI T x l).map T = insS (T x) (l.map T) := by
  intro l
  induction l with
  | nil => rfl
  | cons y r ih =>
    rw [List.map_cons, insS_cons]
    show (if _ then _ else _ : List Int).map T = _
    split
    · rfl
    · rw [List.map_cons, ih]
def lexT (x y : Int) : Prop := (T x).start < (T y).start ∨ ((T x).start = (T y).start ∧ x < y)
theorem insI_mem (x : Int) : ∀ l z, z ∈ insI T x l ↔ z = x ∨ z ∈ l := by
  intro l
  induction l with
  | nil => intro z; simp [insI]
  | cons y r ih =>
    intro z
    unfold insI
    split
    · simp
    · rw [List.mem_cons, ih, List.mem_cons]; constructor
      · rintro (h | h | h)
        · exact .inr (.inl h)
        · exact .inl h
        · exact .inr (.inr h)
      · rintro (h | h | h)
        · exact .inr (.inl h)
        · exact .inl h
        · exact .inr (.inr h)
theorem insI_lex {x : Int} : ∀ {l : List Int}, l.Pairwise (lexT T) → (∀ y ∈ l, y < x) → (insI T x l).Pairwise (lexT T) := by
  intro l
  induction l with
  | nil => intro _ _; exact List.pairwise_singleton _ _
  | cons y r ih =>
    intro h hx
    have hy := List.pairwise_cons.1 h
    unfold insI
    split
    · rename_i hlt
      refine List.pairwise_cons.2 ⟨fun z hz => ?_, h⟩
      rcases List.mem_cons.1 hz with rfl | hz
      · exact .inl hlt
      · have := hy.1 z hz; unfold lexT at *; omega
    · rename_i hge
      refine List.pairwise_cons.2 ⟨fun z hz => ?_, ih hy.2 fun z hz => hx z (by simp [hz])⟩
      rcases (insI_mem T x r z).1 hz with rfl | hz
      · have := hx y (by simp); unfold lexT; omega
      · exact hy.1 z hz
theorem insI_perm (x : Int) : ∀ l, (insI T x l).Perm (x :: l) := by
  intro l
  induction l with
  | nil => exact .refl _
  | cons y r ih =>
    unfold insI
    split
    · exact .refl _
    · exact (List.Perm.cons y ih).trans (.swap x y r)
/-- n numbers sorted -/
def srtI : Nat → List Int
  | 0 => []
  | n + 1 => insI T n (srtI n)
def upI (n : Nat) : List Int := (List.range n).map fun (i : Nat) => (i : Int)
theorem upI_succ (n : Nat) : upI (n + 1) = upI n ++ [(n : Int)] := by unfold upI; rw [List.range_succ]; simp
theorem srtI_perm (n : Nat) : (srtI T n).Perm (upI n) := by
  induction n with
  | zero => exact .refl _
  | succ n ih =>
    rw [upI_succ]
    exact ((insI_perm T n _).trans (.cons _ ih)).trans (List.perm_append_comm (l₁ := [(n : Int)]) (l₂ := upI n))
theorem mem_upI {n : Nat} {x : Int} : x ∈ upI n ↔ 0 ≤ x ∧ x < n := by
  unfold upI
  rw [List.mem_map]
  constructor
  · rintro ⟨i, hi, rfl⟩; have := List.mem_range.1 hi; omega
  · rintro ⟨h1, h2⟩; exact ⟨x.toNat, List.mem_range.2 (by omega), by omega⟩
theorem srtI_lex (n : Nat) : (srtI T n).Pairwise (lexT T) := by
  induction n with
  | zero => exact .nil
  | succ n ih =>
    refine insI_lex T ih fun y hy => ?_
    have := mem_upI.1 ((srtI_perm T n).mem_iff.1 hy)
    omega
theorem srtI_map (n : Nat) : (srtI T n).map T = srtS ((upI n).map T) := by
  induction n with
  | zero => rfl
  | succ n ih =>
    show (insI T n (srtI T n)).map T = _
    rw [insI_map, ih, upI_succ, List.map_append]
    unfold srtS
    rw [List.foldl_append]; rfl
def cT (x y : Int) : Int := (T x).start - (T y).start
theorem swoT : SWO (fun _ => True) (ltOf (cT T)) := by
  refine ⟨fun x _ => ?_, fun x y _ _ h => ?_, fun x y z _ _ _ h1 h2 => ?_⟩
  · unfold ltOf cT; rw [decide_eq_false_iff_not]; omega
  · unfold ltOf cT at *; rw [decide_eq_true_eq] at h; rw [decide_eq_false_iff_not]; omega
  · unfold ltOf cT at *; rw [decide_eq_false_iff_not] at *; omega
/-- what the sort leaves is that -/
theorem stab_is {n : Nat} {ys : List Int} (h1 : Rearr (ltOf (cT T)) (upI n) ys) (h2 : SortedOn (ltOf (cT T)) ys 0 ys.length) : ys.map T = srtS ((upI n).map T) := by
  have hR : ys.Pairwise fun x y => (T x).start < (T y).start ∨ x < y := by
    refine h1.pairwise (fun x y h => .inl ?_) ?_
    · unfold ltOf cT at h; rw [decide_eq_true_eq] at h; omega
    · unfold upI
      rw [List.pairwise_map]
      refine List.pairwise_lt_range.imp ?_
      intro a b h; exact .inr (by omega)
  have hS : ys.Pairwise fun x y => (T x).start ≤ (T y).start := by
    rw [List.pairwise_iff_getElem]
    intro i j hi hj hij
    have := h2 i j (Nat.zero_le _) hij hj
    rw [gi_lt hi, gi_lt hj] at this
    unfold ltOf cT at this; rw [decide_eq_false_iff_not] at this; omega
  have hL : ys.Pairwise (lexT T) := by
    refine (hR.and hS).imp ?_
    rintro a b ⟨h3, h4⟩
    unfold lexT; omega
  rw [← srtI_map]
  congr 1
  refine List.Perm.eq_of_pairwise (le := lexT T) ?_ hL (srtI_lex T n) (h1.perm.trans (srtI_perm T n).symm)
  intro a b _ _ h5 h6
  unfold lexT at h5 h6; omega
end

/-! no trips -/
theorem inX_nil (F : FuncId) (w : World) : Calls Tryz.prog 66 #[.slice none 0 0, .int .i64 0, .int .i64 0, .func (.func F) #[] #[]] w fun e w' => e = .returned (.tuple #[]) ∧ w' = w := by
  go_enter Tryz.func66, Tryz.ntmps66
  go_wp2_with fail
  refine wp_loop_rounds 1 ?_
  rw [rounds_succ]
  go_wp2_with fail
  refine bodyPost_end (results_none Tryz.results66 _ _ _) rfl ?_
  exact ⟨rfl, rfl⟩
theorem scX_nil (F : FuncId) (w : World) : Calls Tryz.prog 45 #[.slice none 0 0, .int .i64 0, .func (.func F) #[] #[]] w fun e w' => e = .returned (.tuple #[]) ∧ w' = w := by
  go_enter Tryz.func45, Tryz.ntmps45
  go_wp2_with fail
  refine wp_loop_rounds 1 ?_
  rw [rounds_succ]
  go_wp2_with fail
  refine (inX_nil F w).mono ?_
  rintro e w1 ⟨rfl, rfl⟩
  go_wp2_with fail
  refine wp_loop_rounds 1 ?_
  rw [rounds_succ]
  go_wp2_with fail
  refine bodyPost_end (results_none Tryz.results45 _ _ _) rfl ?_
  exact ⟨rfl, rfl⟩
theorem ssX_nil (F : FuncId) (w : World) : Calls Tryz.prog 18 #[.slice none 0 0, .func (.func F) #[] #[]] w fun e w' => e = .returned (.tuple #[]) ∧ w' = w := by
  go_enter Tryz.func18, Tryz.ntmps18
  go_wp2_with fail
  refine (scX_nil F w).mono ?_
  rintro e w1 ⟨rfl, rfl⟩
  go_wp2_with fail
  refine bodyPost_end (results_none Tryz.results18 _ _ _) rfl ?_
  exact ⟨rfl, rfl⟩
theorem upI_length (n : Nat) : (upI n).length = n := by simp [upI]
theorem upI_trips (l : List Trp) : (upI l.length).map (fun i => tpi l i.toNat) = l := by
  apply List.ext_getElem
  · simp [upI]
  · intro i h1 h2
    simp [upI, tpi_lt h2]
/-- trips by Start -/
theorem sortX_any (v : Value) (l : List Trp) (w : World) (B : Nat) (h : OwnX w B v l) (hl : l.length ≤ 100000) (hs : ∀ x ∈ l, 0 ≤ x.start ∧ x.start ≤ 1099511627776) :
    Calls Tryz.prog 18 #[v, .func (.func 19) #[] #[]] w fun e w' => e = .returned (.tuple #[]) ∧ w.grownBy w' v.ownBlock ∧ OwnX w' B v (srtS l) := by
  rcases h.shape with ⟨rfl, rfl⟩ | ⟨g, cap, rfl, h1, h2, _⟩
  · refine (ssX_nil _ w).mono ?_
    rintro e w' ⟨rfl, rfl⟩
    exact ⟨rfl, World.grownBy.refl _ _, OwnX_nil _ _⟩
  · have ho : OwnY (fun i => tpi l i.toNat) w B (.slice (some ⟨g, 0, none⟩) l.length cap) (upI l.length) := by
      unfold OwnY; rw [upI_trips]; exact h
    have hst : ∀ x : Int, 0 ≤ x ∧ x < l.length → 0 ≤ (tpi l x.toNat).start ∧ (tpi l x.toNat).start ≤ 1099511627776 := fun x hx => hs _ (tpi_mem (by omega))
    have hf : FnCmpY (fun i => tpi l i.toNat) (.func (.func 19) #[] #[]) w g (fun x => 0 ≤ x ∧ x < l.length) (cT fun i => tpi l i.toNat) :=
      ⟨_, _, rfl, enter_Check1, fun x y w' hx hy _ => Check1_any _ _ w' (hst x hx) (hst y hy)⟩
    have hO : SWO (fun x => 0 ≤ x ∧ x < (l.length : Int)) (ltOf (cT fun i => tpi l i.toNat)) := by
      have := swoT (fun i => tpi l i.toNat)
      exact ⟨fun x _ => this.irr x trivial, fun x y _ _ => this.asym x y trivial trivial, fun x y z _ _ _ => this.neg x y z trivial trivial trivial⟩
    refine (stabY_any (fun i => tpi l i.toNat) _ _ _ w B g _ cap (upI l.length) ho hf hO (fun x hx => mem_upI.1 hx) (by rw [upI_length]; exact hl)).mono ?_
    rintro e w' ⟨rfl, hg, ys, hy, hr, _, hso⟩
    refine ⟨rfl, hg, ?_⟩
    have hyl : ys.length = (upI l.length).length := hr.length
    have := stab_is (fun i => tpi l i.toNat) hr (by rw [hyl]; exact hso)
    rw [upI_trips] at this
    rw [← this]
    exact hy
end Go.Proofs.YtpbmmdoodmbneaaGreatDoor
