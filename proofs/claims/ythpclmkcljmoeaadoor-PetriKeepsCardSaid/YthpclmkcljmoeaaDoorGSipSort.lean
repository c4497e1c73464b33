/- slices.SortFunc of words below 256 by petri.Siphons' order: the row holds sortW. -/
import Derived.Test.YthpclmkcljmoeaaDoorGSipEv
import Derived.Test.YthpclmkcljmoeaaDoorGDrawn
import Derived.Test.YthpclmkcljmoeaaDoorGShelf
namespace Go.Proofs.YthpclmkcljmoeaaDoor.P
open Go.RowKit Go.Proofs.YthpclmkcljmoeaaDoorW.PrintWords Go.Proofs.YthpclmkcljmoeaaDoorW.PrintLast Go.Proofs.YthpclmkcljmoeaaDoorW.PrintMore
open Go.Sort (SWO SortedIn PermIn Holds putRow putCells grow)
set_option linter.unusedVariables false
set_option linter.unusedSimpArgs false
def encF (x : Fin 256) : Value := .int .u64 ((x.val : Nat) : Int)
def cmpF (x y : Fin 256) : Int := cmpW x.val y.val
theorem swoF : SWO (ltOf cmpF) where
  irrefl x := by
    have := lexC_self (keyW x.val)
    simp [ltOf, cmpF, cmpW, this]
  trans x y z h1 h2 := decide_eq_true (lexC_lt _ _ _ (of_decide_eq_true h1) (of_decide_eq_true h2))
  ntrans x y z h1 h2 := by
    have h1 : ¬ lexC (keyW x.val) (keyW y.val) < 0 := of_decide_eq_false h1
    have h2 : ¬ lexC (keyW y.val) (keyW z.val) < 0 := of_decide_eq_false h2
    have a := lexC_swap (keyW x.val) (keyW y.val)
    have b := lexC_swap (keyW y.val) (keyW z.val)
    have c := lexC_swap (keyW x.val) (keyW z.val)
    have := lexC_le (keyW z.val) (keyW y.val) (keyW x.val) (by omega) (by omega)
    exact decide_eq_false (by show ¬ lexC _ _ < 0; omega)
theorem blk_sort (w : World) (b m : Nat) (d : Array (Fin 256)) (os : Array Obj) (k : Nat) (hk : k ≠ b) (hkw : k < w.heap.size) : (Go.Proofs.sortWorld encF w b 0 m d os).heap[k]? = w.heap[k]? := by
  unfold Go.Proofs.sortWorld
  rw [Go.Sort.heap_grow_old _ _ (by simpa [putRow, Go.Sort.mapBlock, Go.Sort.ahead] using hkw)]
  simp only [putRow, Go.Sort.mapBlock, Go.Sort.ahead, Array.getElem?_modify]
  rw [if_neg (by omega)]
theorem tab_sort {w : World} {b m : Nat} {d : Array (Fin 256)} {os : Array Obj} (ht : Tab w) (hb : ∀ g, g = Tryd.laysTz_ren.g 1 → g ≠ b) : Tab (Go.Proofs.sortWorld encF w b 0 m d os) := fun j hj => by
  have h1 := ht j hj
  have h2 := cell_lt_ h1
  rw [← h1]
  unfold World.cell?
  rw [blk_sort _ _ _ _ _ _ (hb _ rfl) h2]
theorem cmpLays {w : World} {b size : Nat} (ht : Tab w) (hb : ∀ g, g = Tryd.laysTz_ren.g 1 → g ≠ b) : CmpLays1 Tryd.prog 29 #[] encF cmpF b 0 size w := by
  intro m os dk hs x y
  have HT := tab_sort (m := m) (d := dk) (os := os) ht hb
  generalize Go.Proofs.sortWorld encF w b 0 m dk os = W at HT ⊢
  obtain ⟨K, hK⟩ := sip1_ev x.val y.val x.isLt y.isLt
  have hc := petri_Siphons_1.calls K (x.val : Int) (y.val : Int) _ W HT (hK K (Nat.le_refl _))
  refine (calls_drawn hc ?_).mono ?_
  · rintro e w' ⟨rfl, _⟩; exact ⟨_, rfl⟩
  · rintro e w' ⟨⟨rfl, hbl⟩, hd⟩
    exact ⟨rfl, grow_of_below hbl hd⟩
theorem getD_bang (d : Array (Fin 256)) (j : Nat) (h : j < d.size) : d[j]! = d[j] := getElem!_pos d j h
theorem sort_words (b cap base : Nat) (xs : List Nat) (hx : ∀ x ∈ xs, x < 256) (w : World) (ht : Tab w) (hg : ∀ g, g = Tryd.laysTz_ren.g 1 → g ≠ b) (hb : base ≤ b) (hblk : b < w.heap.size)
    (hcell : ∀ j, j < xs.length → w.cell? ⟨b, j, none⟩ = some (.int .u64 ((xs.getD j 0 : Nat) : Int)) ∧ w.frozen? ⟨b, j, none⟩ = false) (hn : xs.length < 1000000) :
    Calls Tryd.prog 28 #[.slice (some ⟨b, 0, none⟩) xs.length cap, .func (.func 29) #[] #[]] w fun e w' =>
      e = .returned (.tuple #[]) ∧ Below base w w' ∧ Kd.C (Kd.int .u64) w' (some ⟨b, 0, none⟩) xs.length ((sortW xs).map (fun (x : Nat) => (x : Int))) := by
  obtain ⟨d, hd⟩ : ∃ d : Array (Fin 256), d.toList.map Fin.val = xs := ⟨(xs.pmap Fin.mk hx).toArray, by
    simp [List.map_pmap]⟩
  have hs : d.size = xs.length := by rw [← hd]; simp
  have hH : Holds encF w b 0 d := fun j hj => by
    have := hcell j (by omega)
    rw [Nat.zero_add]
    refine ⟨?_, this.2⟩
    rw [this.1, getD_bang d j hj]
    unfold encF
    congr 2
    rw [← hd]
    simp [List.getD_eq_getElem?_getD, hj]
  have h1 := Any.slices_SortFunc Tryd.laysSort encF (fun _ => rfl) cmpF swoF 29 #[] b 0 cap d w
    (fun args w => Go.Proofs.enters_of Tryd.func29 (by kernel_rfl) rfl args w) (cmpLays ht hg) hH hblk (by omega)
  rw [hs] at h1
  refine h1.mono ?_
  rintro e w' ⟨rfl, d', n, os, hp, hsrt, rfl⟩
  obtain ⟨p1, -, p3⟩ := hp
  refine ⟨rfl, ?_, ?_⟩
  · refine ⟨rfl, rfl, rfl, ?_, fun k hk => ?_⟩
    · have := Go.Proofs.lt_sortWorld encF w b 0 n d' os hblk
      simp [Go.Proofs.sortWorld, putRow, Go.Sort.mapBlock, Go.Sort.ahead]
    · exact blk_sort _ _ _ _ _ _ (by omega) (by omega)
  · have hds : d'.size = xs.length := by rw [p1, hs]
    have hperm : (d'.toList.map Fin.val).Perm xs := by
      rw [← hd]
      have e1 : d'.extract 0 xs.length = d' := by rw [← hds]; simp
      have e2 : d.extract 0 xs.length = d := by rw [← hs]; simp
      rw [e1, e2] at p3
      exact p3.map _
    have hsort : (d'.toList.map Fin.val).Pairwise (fun a b => cmpW a b ≤ 0) := by
      rw [List.pairwise_map, List.pairwise_iff_getElem]
      intro i j hi hj hij
      have := hsrt i j (Nat.zero_le _) hij (by simp at hj; omega)
      simp only [Array.length_toList] at hi hj
      rw [getD_bang d' i hi, getD_bang d' j hj] at this
      have this : ¬ lexC (keyW (d'[j]).val) (keyW (d'[i]).val) < 0 := of_decide_eq_false this
      have h3 := lexC_swap (keyW (d'[i]).val) (keyW (d'[j]).val)
      simp only [Array.getElem_toList]
      unfold cmpW at *
      omega
    have hone : d'.toList.map Fin.val = sortW xs := sorted_one _ _ (fun x hx2 => by
      have := hx x (hperm.mem_iff.1 hx2); omega) (hperm.trans (sortW_perm xs).symm) hsort (sortW_sorted xs)
    have hH' := Go.Proofs.holds_sortWorld encF w b 0 n d d' os hblk hH p1
    have hlen : ((sortW xs).map (fun (x : Nat) => (x : Int))).length = xs.length := by rw [List.length_map, (sortW_perm xs).length_eq]
    refine ⟨hlen, by omega, fun _ => ⟨_, rfl, fun j p hj => ⟨[.int .u64 p], rfl, rfl, fun i u hu => ?_⟩⟩⟩
    have hjl : j < d'.size := by
      have := (List.getElem?_eq_some_iff.1 hj).1
      omega
    have hi : i = 0 := by
      rcases Nat.eq_zero_or_pos i with h | h
      · exact h
      · rw [List.getElem?_eq_none (by simp; omega)] at hu; cases hu
    subst hi
    simp only [List.getElem?_cons_zero, Option.some.injEq] at hu
    subst hu
    have hc := (hH' j hjl).1
    rw [getD_bang d' j hjl] at hc
    have e : (⟨b, 0, none⟩ : Addr).add (j * (Kd.int .u64).sz + 0) = ⟨b, 0 + j, none⟩ := by
      show Addr.add ⟨b, 0, none⟩ (j * 1 + 0) = _
      unfold Addr.add
      split
      · rename_i h0; simp at h0; simp [h0]
      · simp
    rw [e, hc]
    unfold encF
    congr 2
    rw [← hone] at hj
    simp [hjl] at hj
    exact hj
end Go.Proofs.YthpclmkcljmoeaaDoor.P
