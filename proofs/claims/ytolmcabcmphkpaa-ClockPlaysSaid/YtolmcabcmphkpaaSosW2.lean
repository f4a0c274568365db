/- Walks: slices.SortFunc at texts. -/
import Derived.Test.YtolmcabcmphkpaaSosW1
set_option linter.unusedSimpArgs false
set_option linter.unusedVariables false
set_option linter.unusedSectionVars false
namespace Go.Wk
open Go.HL
open Go.Proofs hiding encI
variable [DM]

def slices_partitionCmpFunc_string_j8 (a : Int) (Q : Int → Bool → (List Str) → Prop) (data_2 : List Str) (K_3 : (List Str) → Int → Int → Prop) (i_4 : Int) (j_7 : Int) : Prop :=
  (j_7 < i_4 → ((0 : Int) ≤ a ∧ a < (data_2.length : Int)) ∧ (((0 : Int) ≤ j_7 ∧ j_7 < (data_2.length : Int)) ∧ (((0 : Int) ≤ a ∧ a < ((data_2.set (j_7).toNat (gi data_2 a)).length : Int)) ∧ (Q j_7 false ((data_2.set (j_7).toNat (gi data_2 a)).set (a).toNat (gi data_2 j_7)))))) ∧ (¬ (j_7 < i_4) → ((0 : Int) ≤ j_7 ∧ j_7 < (data_2.length : Int)) ∧ (((0 : Int) ≤ i_4 ∧ i_4 < (data_2.length : Int)) ∧ (((0 : Int) ≤ j_7 ∧ j_7 < ((data_2.set (i_4).toNat (gi data_2 j_7)).length : Int)) ∧ ((I64 (i_4 + 1)) ∧ ((I64 (j_7 - 1)) ∧ (K_3 ((data_2.set (i_4).toNat (gi data_2 j_7)).set (j_7).toNat (gi data_2 i_4)) (i_4 + 1) (j_7 - 1)))))))
def slices_partitionCmpFunc_string_l5 (a : Int) (cf_cmp : Str → Str → Int) (Q : Int → Bool → (List Str) → Prop) (data_2 : List Str) (K_3 : (List Str) → Int → Int → Prop) (i_4 : Int) (K_5 : Int → Prop) (j_9 : Int) : Prop :=
  (i_4 ≤ j_9 → ((0 : Int) ≤ j_9 ∧ j_9 < (data_2.length : Int)) ∧ (((0 : Int) ≤ a ∧ a < (data_2.length : Int)) ∧ ((¬ ((cf_cmp (gi data_2 j_9) (gi data_2 a)) < 0) → (I64 (j_9 - 1)) ∧ (K_5 (j_9 - 1))) ∧ ((cf_cmp (gi data_2 j_9) (gi data_2 a)) < 0 → slices_partitionCmpFunc_string_j8 a Q data_2 K_3 i_4 j_9)))) ∧ (¬ (i_4 ≤ j_9) → slices_partitionCmpFunc_string_j8 a Q data_2 K_3 i_4 j_9)
def slices_partitionCmpFunc_string_j6 (a : Int) (cf_cmp : Str → Str → Int) (Q : Int → Bool → (List Str) → Prop) (data_2 : List Str) (j_5 : Int) (K_3 : (List Str) → Int → Int → Prop) (i_4 : Int) : Prop :=
  loopW (fun (K_5 : Int → Prop) (s : Int) => slices_partitionCmpFunc_string_l5 a cf_cmp Q data_2 K_3 i_4 K_5 s) j_5
def slices_partitionCmpFunc_string_l4 (a : Int) (cf_cmp : Str → Str → Int) (Q : Int → Bool → (List Str) → Prop) (data_2 : List Str) (j_5 : Int) (K_3 : (List Str) → Int → Int → Prop) (K_4 : Int → Prop) (i_5 : Int) : Prop :=
  (i_5 ≤ j_5 → ((0 : Int) ≤ i_5 ∧ i_5 < (data_2.length : Int)) ∧ (((0 : Int) ≤ a ∧ a < (data_2.length : Int)) ∧ (((cf_cmp (gi data_2 i_5) (gi data_2 a)) < 0 → (I64 (i_5 + 1)) ∧ (K_4 (i_5 + 1))) ∧ (¬ ((cf_cmp (gi data_2 i_5) (gi data_2 a)) < 0) → slices_partitionCmpFunc_string_j6 a cf_cmp Q data_2 j_5 K_3 i_5)))) ∧ (¬ (i_5 ≤ j_5) → slices_partitionCmpFunc_string_j6 a cf_cmp Q data_2 j_5 K_3 i_5)
def slices_partitionCmpFunc_string_l3 (a : Int) (cf_cmp : Str → Str → Int) (Q : Int → Bool → (List Str) → Prop) (K_3 : (List Str) → Int → Int → Prop) (data_2 : List Str) (i_3 : Int) (j_5 : Int) : Prop :=
  loopW (fun (K_4 : Int → Prop) (s : Int) => slices_partitionCmpFunc_string_l4 a cf_cmp Q data_2 j_5 K_3 K_4 s) i_3
def slices_partitionCmpFunc_string_j3 (data : List Str) (a : Int) (pivot : Int) (cf_cmp : Str → Str → Int) (Q : Int → Bool → (List Str) → Prop) (i_1 : Int) (j_2 : Int) : Prop :=
  (j_2 < i_1 → ((0 : Int) ≤ a ∧ a < (((data.set (a).toNat (gi data pivot)).set (pivot).toNat (gi data a)).length : Int)) ∧ (((0 : Int) ≤ j_2 ∧ j_2 < (((data.set (a).toNat (gi data pivot)).set (pivot).toNat (gi data a)).length : Int)) ∧ (((0 : Int) ≤ a ∧ a < ((((data.set (a).toNat (gi data pivot)).set (pivot).toNat (gi data a)).set (j_2).toNat (gi ((data.set (a).toNat (gi data pivot)).set (pivot).toNat (gi data a)) a)).length : Int)) ∧ (Q j_2 true ((((data.set (a).toNat (gi data pivot)).set (pivot).toNat (gi data a)).set (j_2).toNat (gi ((data.set (a).toNat (gi data pivot)).set (pivot).toNat (gi data a)) a)).set (a).toNat (gi ((data.set (a).toNat (gi data pivot)).set (pivot).toNat (gi data a)) j_2)))))) ∧ (¬ (j_2 < i_1) → ((0 : Int) ≤ j_2 ∧ j_2 < (((data.set (a).toNat (gi data pivot)).set (pivot).toNat (gi data a)).length : Int)) ∧ (((0 : Int) ≤ i_1 ∧ i_1 < (((data.set (a).toNat (gi data pivot)).set (pivot).toNat (gi data a)).length : Int)) ∧ (((0 : Int) ≤ j_2 ∧ j_2 < ((((data.set (a).toNat (gi data pivot)).set (pivot).toNat (gi data a)).set (i_1).toNat (gi ((data.set (a).toNat (gi data pivot)).set (pivot).toNat (gi data a)) j_2)).length : Int)) ∧ ((I64 (i_1 + 1)) ∧ ((I64 (j_2 - 1)) ∧ (loopW (fun (K_3 : (List Str × Int × Int) → Prop) (s : List Str × Int × Int) => slices_partitionCmpFunc_string_l3 a cf_cmp Q (fun data_2 i_3 j_5 => K_3 (data_2, i_3, j_5)) s.1 s.2.1 s.2.2) ((((data.set (a).toNat (gi data pivot)).set (pivot).toNat (gi data a)).set (i_1).toNat (gi ((data.set (a).toNat (gi data pivot)).set (pivot).toNat (gi data a)) j_2)).set (j_2).toNat (gi ((data.set (a).toNat (gi data pivot)).set (pivot).toNat (gi data a)) i_1), i_1 + 1, j_2 - 1)))))))
def slices_partitionCmpFunc_string_l2 (data : List Str) (a : Int) (pivot : Int) (cf_cmp : Str → Str → Int) (Q : Int → Bool → (List Str) → Prop) (i_1 : Int) (K_2 : Int → Prop) (j_4 : Int) : Prop :=
  (i_1 ≤ j_4 → ((0 : Int) ≤ j_4 ∧ j_4 < (((data.set (a).toNat (gi data pivot)).set (pivot).toNat (gi data a)).length : Int)) ∧ (((0 : Int) ≤ a ∧ a < (((data.set (a).toNat (gi data pivot)).set (pivot).toNat (gi data a)).length : Int)) ∧ ((¬ ((cf_cmp (gi ((data.set (a).toNat (gi data pivot)).set (pivot).toNat (gi data a)) j_4) (gi ((data.set (a).toNat (gi data pivot)).set (pivot).toNat (gi data a)) a)) < 0) → (I64 (j_4 - 1)) ∧ (K_2 (j_4 - 1))) ∧ ((cf_cmp (gi ((data.set (a).toNat (gi data pivot)).set (pivot).toNat (gi data a)) j_4) (gi ((data.set (a).toNat (gi data pivot)).set (pivot).toNat (gi data a)) a)) < 0 → slices_partitionCmpFunc_string_j3 data a pivot cf_cmp Q i_1 j_4)))) ∧ (¬ (i_1 ≤ j_4) → slices_partitionCmpFunc_string_j3 data a pivot cf_cmp Q i_1 j_4)
def slices_partitionCmpFunc_string_j1 (data : List Str) (a : Int) (b : Int) (pivot : Int) (cf_cmp : Str → Str → Int) (Q : Int → Bool → (List Str) → Prop) (i_1 : Int) : Prop :=
  loopW (fun (K_2 : Int → Prop) (s : Int) => slices_partitionCmpFunc_string_l2 data a pivot cf_cmp Q i_1 K_2 s) (b - 1)
def slices_partitionCmpFunc_string_l1 (data : List Str) (a : Int) (b : Int) (pivot : Int) (cf_cmp : Str → Str → Int) (Q : Int → Bool → (List Str) → Prop) (K_1 : Int → Prop) (i_2 : Int) : Prop :=
  (i_2 ≤ (b - 1) → ((0 : Int) ≤ i_2 ∧ i_2 < (((data.set (a).toNat (gi data pivot)).set (pivot).toNat (gi data a)).length : Int)) ∧ (((0 : Int) ≤ a ∧ a < (((data.set (a).toNat (gi data pivot)).set (pivot).toNat (gi data a)).length : Int)) ∧ (((cf_cmp (gi ((data.set (a).toNat (gi data pivot)).set (pivot).toNat (gi data a)) i_2) (gi ((data.set (a).toNat (gi data pivot)).set (pivot).toNat (gi data a)) a)) < 0 → (I64 (i_2 + 1)) ∧ (K_1 (i_2 + 1))) ∧ (¬ ((cf_cmp (gi ((data.set (a).toNat (gi data pivot)).set (pivot).toNat (gi data a)) i_2) (gi ((data.set (a).toNat (gi data pivot)).set (pivot).toNat (gi data a)) a)) < 0) → slices_partitionCmpFunc_string_j1 data a b pivot cf_cmp Q i_2)))) ∧ (¬ (i_2 ≤ (b - 1)) → slices_partitionCmpFunc_string_j1 data a b pivot cf_cmp Q i_2)
def slices_partitionCmpFunc_string_W (data : List Str) (a : Int) (b : Int) (pivot : Int) (cf_cmp : Str → Str → Int) (Q : Int → Bool → (List Str) → Prop) : Prop :=
  ((0 : Int) ≤ pivot ∧ pivot < (data.length : Int)) ∧ (((0 : Int) ≤ a ∧ a < (data.length : Int)) ∧ (((0 : Int) ≤ pivot ∧ pivot < ((data.set (a).toNat (gi data pivot)).length : Int)) ∧ ((I64 (a + 1)) ∧ ((I64 (b - 1)) ∧ (loopW (fun (K_1 : Int → Prop) (s : Int) => slices_partitionCmpFunc_string_l1 data a b pivot cf_cmp Q K_1 s) (a + 1))))))
set_option maxHeartbeats 40000000 in
set_option maxRecDepth 100000 in
theorem slices_partitionCmpFunc_string_walk {F : Fz} {fr : List Ow} {h0 : Heap} (data : List Str) (a : Int) (b : Int) (pivot : Int) (cf_cmp : Str → Str → Int) (vdata : Value) (g_cmp : Nat) (fs_cmp : Array Value) (cs_cmp : Array Value) (hS : St F (Ow.own 9 1 encT vdata data :: fr) h0) (hF_cf_cmp : FnP Try.prog F h0 g_cmp fs_cmp cs_cmp (fun x : Str × Str => [.string (bs x.1), .string (bs x.2)]) (fun x => .int .i64 (cf_cmp x.1 x.2))) {Q : Int → Bool → (List Str) → Prop} (hM : slices_partitionCmpFunc_string_W data a b pivot cf_cmp Q) :
    HC Try.prog 87 #[vdata, .int .i64 a, .int .i64 b, .int .i64 pivot, .func (.func g_cmp) fs_cmp cs_cmp] h0 fun u h' => ∃ (F' : Fz) (r0_1 : Int) (r1_1 : Bool) (data_1 : List Str), u = .tuple #[.int .i64 r0_1, .bool r1_1] ∧ Kp F h0 F' h' ∧ St F' (Ow.own 9 1 encT vdata data_1 :: fr) h' ∧ (FnP Try.prog F' h' g_cmp fs_cmp cs_cmp (fun x : Str × Str => [.string (bs x.1), .string (bs x.2)]) (fun x => .int .i64 (cf_cmp x.1 x.2))) ∧ Q r0_1 r1_1 data_1 := by
  unfold slices_partitionCmpFunc_string_W at hM
  have hK := Kp.refl F h0
  refine HC.of_HW (n := 178) Try.func87 rfl rfl (Nat.le_of_ble_eq_true rfl) ?_
  refine HW.seq ?_
  refine HW.region ?_
  refine HO.val (v := .int .i64 0) (want_none) rfl (q_assign rfl) ?_
  refine HO.val (v := .bool false) (want_none) rfl (q_assign rfl) ?_
  refine HO.nil (thenQ_normal (?_))
  refine HW.seq ?_
  refine HW.regionA 16 mixed (fun h => True) [(13, fun h => (OwnIs h 0 9 1 encT vdata data))] (by kernel_rfl) ?_
  refine HA.val (k := 0) (v := vdata) rfl rfl (by kernel_rfl) (by kernel_rfl) (want_none) rfl (fun _ _ => q_move rfl) ?_
  refine HA.val (k := 1) (v := .int .i64 a) rfl rfl (by kernel_rfl) (by kernel_rfl) (want_none) rfl (fun _ _ => q_move rfl) ?_
  refine HA.val (k := 2) (v := vdata) rfl rfl (by kernel_rfl) (by kernel_rfl) (want_none) rfl (fun _ _ => q_move rfl) ?_
  refine HA.val (k := 3) (v := .int .i64 pivot) rfl rfl (by kernel_rfl) (by kernel_rfl) (want_none) rfl (fun _ _ => q_move rfl) ?_
  refine HA.val (k := 4) (v := vdata) rfl rfl (by kernel_rfl) (by kernel_rfl) (want_none) rfl (fun _ _ => q_move rfl) ?_
  refine HA.val (k := 5) (v := .int .i64 pivot) rfl rfl (by kernel_rfl) (by kernel_rfl) (want_none) rfl (fun _ _ => q_move rfl) ?_
  obtain ⟨ho_1, hM⟩ := hM
  refine Go.Wk.HA.valN (k := 6) (v := elemPtr 1 vdata (pivot).toNat) 0 13 (fun h => (OwnIs h 0 9 1 encT vdata data)) rfl rfl (by kernel_rfl) (by kernel_rfl) (want_none) rfl rfl (by kernel_rfl) (fun _ _ c1 => q_idx ts_36 c1.slice rfl rfl ho_1) ?_
  refine Go.Wk.HA.valN (k := 7) (v := .string (bs (gi data pivot))) 0 13 (fun h => (OwnIs h 0 9 1 encT vdata data)) rfl rfl (by kernel_rfl) (by kernel_rfl) (want_none) rfl rfl (by kernel_rfl) (fun _ _ c1 => q_ldElem to_9 c1.slice rfl ho_1 rfl) ?_
  refine HA.val (k := 8) (v := vdata) rfl rfl (by kernel_rfl) (by kernel_rfl) (want_none) rfl (fun _ _ => q_move rfl) ?_
  refine HA.val (k := 9) (v := .int .i64 a) rfl rfl (by kernel_rfl) (by kernel_rfl) (want_none) rfl (fun _ _ => q_move rfl) ?_
  obtain ⟨ho_2, hM⟩ := hM
  refine Go.Wk.HA.valN (k := 10) (v := elemPtr 1 vdata (a).toNat) 0 13 (fun h => (OwnIs h 0 9 1 encT vdata data)) rfl rfl (by kernel_rfl) (by kernel_rfl) (want_none) rfl rfl (by kernel_rfl) (fun _ _ c1 => q_idx ts_36 c1.slice rfl rfl ho_2) ?_
  refine Go.Wk.HA.valN (k := 11) (v := .string (bs (gi data a))) 0 13 (fun h => (OwnIs h 0 9 1 encT vdata data)) rfl rfl (by kernel_rfl) (by kernel_rfl) (want_none) rfl rfl (by kernel_rfl) (fun _ _ c1 => q_ldElem to_9 c1.slice rfl ho_2 rfl) ?_
  refine Go.Wk.HA.valN (k := 12) (v := elemPtr 1 vdata (a).toNat) 0 13 (fun h => (OwnIs h 0 9 1 encT vdata data)) rfl rfl (by kernel_rfl) (by kernel_rfl) (want_none) rfl rfl (by kernel_rfl) (fun _ _ c1 => q_idx ts_36 c1.slice rfl rfl ho_2) ?_
  refine HA.one (k := 13) ⟨trivial, (at_now (hS.own 0 rfl) (Go.Wk.at_nil _ _))⟩ (by kernel_rfl) ?_
  refine HS.sto rfl (want_none) rfl (st_storeField (a := (gi data pivot)) (n := (a).toNat) (j := 0) hS (i := 0) rfl to_9 (elem_field _ _ _) (by omega) (by decide) rfl (by rw [← gi_lt ho_2.1 ho_2.2]; rfl) rfl rfl) ?_
  rintro h_1 ⟨hS, hk⟩
  replace hS : St F (Ow.own 9 1 encT vdata (data.set (a).toNat (gi data pivot)) :: fr) h_1 := hS
  replace hK := hK.trans hk
  replace hF_cf_cmp := hF_cf_cmp.kp hk
  refine Go.Wk.HA.re (fun h => True) [(15, fun h => (OwnIs h 0 9 1 encT vdata (data.set (a).toNat (gi data pivot))))] (fun L_ h_ hL_ _ hs_ => ⟨trivial, (at_gone hL_ (by kernel_rfl) (Go.Wk.at_nil _ _))⟩) ?_
  obtain ⟨ho_3, hM⟩ := hM
  refine Go.Wk.HA.valN (k := 14) (v := elemPtr 1 vdata (pivot).toNat) 0 15 (fun h => (OwnIs h 0 9 1 encT vdata (data.set (a).toNat (gi data pivot)))) rfl rfl (by kernel_rfl) (by kernel_rfl) (want_none) rfl rfl (by kernel_rfl) (fun _ _ c1 => q_idx ts_36 c1.slice rfl rfl ho_3) ?_
  refine HA.one (k := 15) ⟨trivial, (at_now (hS.own 0 rfl) (Go.Wk.at_nil _ _))⟩ (by kernel_rfl) ?_
  refine HS.sto rfl (want_none) rfl (st_storeField (a := (gi data a)) (n := (pivot).toNat) (j := 0) hS (i := 0) rfl to_9 (elem_field _ _ _) (by omega) (by decide) rfl (by rw [← gi_lt ho_3.1 ho_3.2]; rfl) rfl rfl) ?_
  rintro h_2 ⟨hS, hk⟩
  replace hS : St F (Ow.own 9 1 encT vdata ((data.set (a).toNat (gi data pivot)).set (pivot).toNat (gi data a)) :: fr) h_2 := hS
  replace hK := hK.trans hk
  replace hF_cf_cmp := hF_cf_cmp.kp hk
  refine HA.nil ⟨trivial, (at_done (by kernel_rfl) (Go.Wk.at_nil _ _))⟩ (by kernel_rfl) (thenQ_normal (?_))
  refine HW.seq ?_
  refine HW.region ?_
  refine HO.val (v := .int .i64 a) (want_none) rfl (q_move rfl) ?_
  obtain ⟨ho_4, hM⟩ := hM
  refine HO.val (v := .int .i64 (a + 1)) (want_none) rfl (q_addN _ rfl rfl rfl ho_4.1 ho_4.2) ?_
  refine HO.val (v := .int .i64 b) (want_none) rfl (q_move rfl) ?_
  obtain ⟨ho_5, hM⟩ := hM
  refine HO.val (v := .int .i64 (b - 1)) (want_none) rfl (q_subN _ rfl rfl rfl ho_5.1 ho_5.2) ?_
  refine HO.val (v := .int .i64 (a + 1)) (want_none) rfl (q_assign rfl) ?_
  refine HO.val (v := .int .i64 (b - 1)) (want_none) rfl (q_assign rfl) ?_
  refine HO.nil (thenQ_normal (?_))
  refine HW.seq_mid (fun f h => ∃ (F' : Fz) (i_1 : Int), f 0 = vdata ∧ f 1 = .int .i64 a ∧ f 4 = .func (.func g_cmp) fs_cmp cs_cmp ∧ f 10 = .int .i64 0 ∧ f 11 = .bool false ∧ f 12 = .int .i64 i_1 ∧ f 13 = .int .i64 (b - 1) ∧ Kp F h0 F' h ∧ St F' (Ow.own 9 1 encT vdata ((data.set (a).toNat (gi data pivot)).set (pivot).toNat (gi data a)) :: fr) h ∧ (FnP Try.prog F' h g_cmp fs_cmp cs_cmp (fun x : Str × Str => [.string (bs x.1), .string (bs x.2)]) (fun x => .int .i64 (cf_cmp x.1 x.2))) ∧ slices_partitionCmpFunc_string_j1 data a b pivot cf_cmp Q i_1) ?_ ?_
  · refine HW.block ?_
    obtain ⟨I_1, m_1, hI_1, hR_1⟩ := hM
    refine HW.loop (S := Int) (fun i_2 f h => ∃ (F' : Fz), f 0 = vdata ∧ f 1 = .int .i64 a ∧ f 4 = .func (.func g_cmp) fs_cmp cs_cmp ∧ f 10 = .int .i64 0 ∧ f 11 = .bool false ∧ f 12 = .int .i64 i_2 ∧ f 13 = .int .i64 (b - 1) ∧ Kp F h0 F' h ∧ St F' (Ow.own 9 1 encT vdata ((data.set (a).toNat (gi data pivot)).set (pivot).toNat (gi data a)) :: fr) h ∧ (FnP Try.prog F' h g_cmp fs_cmp cs_cmp (fun x : Str × Str => [.string (bs x.1), .string (bs x.2)]) (fun x => .int .i64 (cf_cmp x.1 x.2))) ∧ I_1 i_2) m_1 (a + 1) ⟨F, rfl, rfl, rfl, rfl, rfl, rfl, rfl, hK, hS, hF_cf_cmp, hI_1⟩ ?_
    rintro i_2 f_1 h_3 ⟨F_1, e0, e1, e4, e10, e11, e12, e13, hK, hS, hF_cf_cmp, hI0⟩
    obtain ⟨K_1, hKe_1⟩ : ∃ K : Int → Prop, K = fun i_2' => I_1 i_2' ∧ m_1 i_2' < m_1 i_2 := ⟨_, rfl⟩
    have hM : slices_partitionCmpFunc_string_l1 data a b pivot cf_cmp Q K_1 i_2 := by rw [hKe_1]; exact hR_1 i_2 hI0
    unfold slices_partitionCmpFunc_string_l1 at hM
    refine HW.fr [(0, vdata), (1, .int .i64 a), (4, .func (.func g_cmp) fs_cmp cs_cmp), (10, .int .i64 0), (11, .bool false), (12, .int .i64 i_2), (13, .int .i64 (b - 1))] ⟨e0, e1, e4, e10, e11, e12, e13, trivial⟩ ?_
    refine HW.seq ?_
    refine HW.seq ?_
    refine HW.regionA 16 mixed (fun h => (OwnIs h 0 9 1 encT vdata ((data.set (a).toNat (gi data pivot)).set (pivot).toNat (gi data a)))) [] (by kernel_rfl) ?_
    refine HA.val (k := 0) (v := .int .i64 i_2) rfl rfl (by kernel_rfl) (by kernel_rfl) (want_none) rfl (fun _ c406 => q_move rfl) ?_
    refine HA.val (k := 1) (v := .int .i64 (b - 1)) rfl rfl (by kernel_rfl) (by kernel_rfl) (want_none) rfl (fun _ c406 => q_move rfl) ?_
    refine HA.val (k := 2) (v := .bool (decide (i_2 ≤ (b - 1)))) rfl rfl (by kernel_rfl) (by kernel_rfl) (want_none) rfl (fun _ c406 => q_leq rfl rfl) ?_
    refine HA.val (k := 3) (v := .bool (decide (i_2 ≤ (b - 1)))) rfl rfl (by kernel_rfl) (by kernel_rfl) (want_none) rfl (fun _ c406 => q_move rfl) ?_
    rcases Bool.eq_false_or_eq_true (decide (i_2 ≤ (b - 1))) with c_1 | c_1
    · replace hM := hM.1 (of_decide_eq_true c_1)
      refine HA.val (k := 4) (v := .func (.func g_cmp) fs_cmp cs_cmp) rfl rfl (by kernel_rfl) (by kernel_rfl) (want_by rfl rfl c_1) rfl (fun _ c406 => q_move rfl) ?_
      refine HA.val (k := 5) (v := vdata) rfl rfl (by kernel_rfl) (by kernel_rfl) (want_by rfl rfl c_1) rfl (fun _ c406 => q_move rfl) ?_
      refine HA.val (k := 6) (v := .int .i64 i_2) rfl rfl (by kernel_rfl) (by kernel_rfl) (want_by rfl rfl c_1) rfl (fun _ c406 => q_move rfl) ?_
      obtain ⟨ho_6, hM⟩ := hM
      refine HA.val (k := 7) (v := elemPtr 1 vdata (i_2).toNat) rfl rfl (by kernel_rfl) (by kernel_rfl) (want_by rfl rfl c_1) rfl (fun _ c406 => q_idx ts_36 c406.slice rfl rfl ho_6) ?_
      refine HA.val (k := 8) (v := .string (bs (gi ((data.set (a).toNat (gi data pivot)).set (pivot).toNat (gi data a)) i_2))) rfl rfl (by kernel_rfl) (by kernel_rfl) (want_by rfl rfl c_1) rfl (fun _ c406 => q_ldElem to_9 c406.slice rfl ho_6 rfl) ?_
      refine HA.val (k := 9) (v := vdata) rfl rfl (by kernel_rfl) (by kernel_rfl) (want_by rfl rfl c_1) rfl (fun _ c406 => q_move rfl) ?_
      refine HA.val (k := 10) (v := .int .i64 a) rfl rfl (by kernel_rfl) (by kernel_rfl) (want_by rfl rfl c_1) rfl (fun _ c406 => q_move rfl) ?_
      obtain ⟨ho_7, hM⟩ := hM
      refine HA.val (k := 11) (v := elemPtr 1 vdata (a).toNat) rfl rfl (by kernel_rfl) (by kernel_rfl) (want_by rfl rfl c_1) rfl (fun _ c406 => q_idx ts_36 c406.slice rfl rfl ho_7) ?_
      refine HA.val (k := 12) (v := .string (bs (gi ((data.set (a).toNat (gi data pivot)).set (pivot).toNat (gi data a)) a))) rfl rfl (by kernel_rfl) (by kernel_rfl) (want_by rfl rfl c_1) rfl (fun _ c406 => q_ldElem to_9 c406.slice rfl ho_7 rfl) ?_
      refine HA.one (k := 13) ⟨(hS.own 0 rfl), (Go.Wk.at_nil _ _)⟩ (by kernel_rfl) ?_
      refine HS.call rfl (want_by rfl rfl c_1) rfl (hF_cf_cmp.ec ((gi ((data.set (a).toNat (gi data pivot)).set (pivot).toNat (gi data a)) i_2), (gi ((data.set (a).toNat (gi data pivot)).set (pivot).toNat (gi data a)) a)) rfl rfl) (hF_cf_cmp.hc ((gi ((data.set (a).toNat (gi data pivot)).set (pivot).toNat (gi data a)) i_2), (gi ((data.set (a).toNat (gi data pivot)).set (pivot).toNat (gi data a)) a)) hS) ?_
      rintro _ h_4 ⟨rfl, hS, hk⟩
      replace hK := hK.trans hk
      replace hF_cf_cmp := hF_cf_cmp.kp hk
      refine HA.val (k := 14) (v := .bool (decide ((cf_cmp (gi ((data.set (a).toNat (gi data pivot)).set (pivot).toNat (gi data a)) i_2) (gi ((data.set (a).toNat (gi data pivot)).set (pivot).toNat (gi data a)) a)) < 0))) rfl rfl (by kernel_rfl) (by kernel_rfl) (want_by rfl rfl c_1) rfl (fun _ c406 => q_lss rfl rfl) ?_
      refine HA.val (k := 15) (v := .bool (decide ((cf_cmp (gi ((data.set (a).toNat (gi data pivot)).set (pivot).toNat (gi data a)) i_2) (gi ((data.set (a).toNat (gi data pivot)).set (pivot).toNat (gi data a)) a)) < 0))) rfl rfl (by kernel_rfl) (by kernel_rfl) (want_none) rfl (fun _ c406 => q_pickK true rfl c_1 rfl) ?_
      refine HA.nil ⟨(hS.own 0 rfl), (Go.Wk.at_nil _ _)⟩ (by kernel_rfl) (thenQ_normal (?_))
      refine HW.cond (decide ((cf_cmp (gi ((data.set (a).toNat (gi data pivot)).set (pivot).toNat (gi data a)) i_2) (gi ((data.set (a).toNat (gi data pivot)).set (pivot).toNat (gi data a)) a)) < 0)) rfl (fun c_2 => ?_) (fun c_2 => ?_)
      · replace hM := hM.1 (of_decide_eq_true c_2)
        refine HW.skip (thenQ_normal (?_))
        refine HW.block ?_
        refine HW.region ?_
        refine HO.val (v := .int .i64 i_2) (want_none) rfl (q_move rfl) ?_
        obtain ⟨ho_8, hM⟩ := hM
        refine HO.val (v := .int .i64 (i_2 + 1)) (want_none) rfl (q_addN _ rfl rfl rfl ho_8.1 ho_8.2) ?_
        refine HO.val (v := .int .i64 (i_2 + 1)) (want_none) rfl (q_assign rfl) ?_
        refine HO.nil (blockQ_normal (thenQ_normal (?_)))
        rw [hKe_1] at hM
        exact ⟨i_2 + 1, ⟨F_1, rfl, rfl, rfl, rfl, rfl, rfl, rfl, hK, hS, hF_cf_cmp, hM.1⟩, hM.2⟩
      · replace hM := hM.2 (of_decide_eq_false c_2)
        refine HW.exit (thenQ_exit (thenQ_exit (blockQ_exit (thenQ_normal (?_)))))
        exact ⟨F_1, i_2, rfl, rfl, rfl, rfl, rfl, rfl, rfl, hK, hS, hF_cf_cmp, hM⟩
    · replace hM := hM.2 (of_decide_eq_false c_1)
      refine HA.past (k := 4) rfl rfl (by kernel_rfl) (by kernel_rfl) (past_by rfl rfl c_1) rfl ?_
      refine HA.past (k := 5) rfl rfl (by kernel_rfl) (by kernel_rfl) (past_by rfl rfl c_1) rfl ?_
      refine HA.past (k := 6) rfl rfl (by kernel_rfl) (by kernel_rfl) (past_by rfl rfl c_1) rfl ?_
      refine HA.past (k := 7) rfl rfl (by kernel_rfl) (by kernel_rfl) (past_by rfl rfl c_1) rfl ?_
      refine HA.past (k := 8) rfl rfl (by kernel_rfl) (by kernel_rfl) (past_by rfl rfl c_1) rfl ?_
      refine HA.past (k := 9) rfl rfl (by kernel_rfl) (by kernel_rfl) (past_by rfl rfl c_1) rfl ?_
      refine HA.past (k := 10) rfl rfl (by kernel_rfl) (by kernel_rfl) (past_by rfl rfl c_1) rfl ?_
      refine HA.past (k := 11) rfl rfl (by kernel_rfl) (by kernel_rfl) (past_by rfl rfl c_1) rfl ?_
      refine HA.past (k := 12) rfl rfl (by kernel_rfl) (by kernel_rfl) (past_by rfl rfl c_1) rfl ?_
      refine HA.one (k := 13) ⟨(hS.own 0 rfl), (Go.Wk.at_nil _ _)⟩ (by kernel_rfl) ?_
      refine HS.past rfl (past_by rfl rfl c_1) rfl ?_
      refine HA.past (k := 14) rfl rfl (by kernel_rfl) (by kernel_rfl) (past_by rfl rfl c_1) rfl ?_
      refine HA.val (k := 15) (v := .bool false) rfl rfl (by kernel_rfl) (by kernel_rfl) (want_none) rfl (fun _ c406 => q_pickK false rfl c_1 rfl) ?_
      refine HA.nil ⟨(hS.own 0 rfl), (Go.Wk.at_nil _ _)⟩ (by kernel_rfl) (thenQ_normal (?_))
      refine HW.condF rfl ?_
      refine HW.exit (thenQ_exit (thenQ_exit (blockQ_exit (thenQ_normal (?_)))))
      exact ⟨F_1, i_2, rfl, rfl, rfl, rfl, rfl, rfl, rfl, hK, hS, hF_cf_cmp, hM⟩
  · rintro f_2 h_5 ⟨F_2, i_1, e0, e1, e4, e10, e11, e12, e13, hK, hS, hF_cf_cmp, hM⟩
    unfold slices_partitionCmpFunc_string_j1 at hM
    refine HW.fr [(0, vdata), (1, .int .i64 a), (4, .func (.func g_cmp) fs_cmp cs_cmp), (10, .int .i64 0), (11, .bool false), (12, .int .i64 i_1), (13, .int .i64 (b - 1))] ⟨e0, e1, e4, e10, e11, e12, e13, trivial⟩ ?_
    refine HW.seq_mid (fun f h => ∃ (F' : Fz) (j_2 : Int), f 0 = vdata ∧ f 1 = .int .i64 a ∧ f 4 = .func (.func g_cmp) fs_cmp cs_cmp ∧ f 10 = .int .i64 0 ∧ f 11 = .bool false ∧ f 12 = .int .i64 i_1 ∧ f 13 = .int .i64 j_2 ∧ Kp F h0 F' h ∧ St F' (Ow.own 9 1 encT vdata ((data.set (a).toNat (gi data pivot)).set (pivot).toNat (gi data a)) :: fr) h ∧ (FnP Try.prog F' h g_cmp fs_cmp cs_cmp (fun x : Str × Str => [.string (bs x.1), .string (bs x.2)]) (fun x => .int .i64 (cf_cmp x.1 x.2))) ∧ slices_partitionCmpFunc_string_j3 data a pivot cf_cmp Q i_1 j_2) ?_ ?_
    · refine HW.block ?_
      obtain ⟨I_2, m_2, hI_2, hR_2⟩ := hM
      refine HW.loop (S := Int) (fun j_4 f h => ∃ (F' : Fz), f 0 = vdata ∧ f 1 = .int .i64 a ∧ f 4 = .func (.func g_cmp) fs_cmp cs_cmp ∧ f 10 = .int .i64 0 ∧ f 11 = .bool false ∧ f 12 = .int .i64 i_1 ∧ f 13 = .int .i64 j_4 ∧ Kp F h0 F' h ∧ St F' (Ow.own 9 1 encT vdata ((data.set (a).toNat (gi data pivot)).set (pivot).toNat (gi data a)) :: fr) h ∧ (FnP Try.prog F' h g_cmp fs_cmp cs_cmp (fun x : Str × Str => [.string (bs x.1), .string (bs x.2)]) (fun x => .int .i64 (cf_cmp x.1 x.2))) ∧ I_2 j_4) m_2 (b - 1) ⟨F_2, rfl, rfl, rfl, rfl, rfl, rfl, rfl, hK, hS, hF_cf_cmp, hI_2⟩ ?_
      rintro j_4 f_3 h_6 ⟨F_3, e0, e1, e4, e10, e11, e12, e13, hK, hS, hF_cf_cmp, hI0⟩
      obtain ⟨K_2, hKe_2⟩ : ∃ K : Int → Prop, K = fun j_4' => I_2 j_4' ∧ m_2 j_4' < m_2 j_4 := ⟨_, rfl⟩
      have hM : slices_partitionCmpFunc_string_l2 data a pivot cf_cmp Q i_1 K_2 j_4 := by rw [hKe_2]; exact hR_2 j_4 hI0
      unfold slices_partitionCmpFunc_string_l2 at hM
      refine HW.fr [(0, vdata), (1, .int .i64 a), (4, .func (.func g_cmp) fs_cmp cs_cmp), (10, .int .i64 0), (11, .bool false), (12, .int .i64 i_1), (13, .int .i64 j_4)] ⟨e0, e1, e4, e10, e11, e12, e13, trivial⟩ ?_
      refine HW.seq ?_
      refine HW.seq ?_
      refine HW.regionA 17 mixed (fun h => (OwnIs h 0 9 1 encT vdata ((data.set (a).toNat (gi data pivot)).set (pivot).toNat (gi data a)))) [] (by kernel_rfl) ?_
      refine HA.val (k := 0) (v := .int .i64 i_1) rfl rfl (by kernel_rfl) (by kernel_rfl) (want_none) rfl (fun _ c407 => q_move rfl) ?_
      refine HA.val (k := 1) (v := .int .i64 j_4) rfl rfl (by kernel_rfl) (by kernel_rfl) (want_none) rfl (fun _ c407 => q_move rfl) ?_
      refine HA.val (k := 2) (v := .bool (decide (i_1 ≤ j_4))) rfl rfl (by kernel_rfl) (by kernel_rfl) (want_none) rfl (fun _ c407 => q_leq rfl rfl) ?_
      refine HA.val (k := 3) (v := .bool (decide (i_1 ≤ j_4))) rfl rfl (by kernel_rfl) (by kernel_rfl) (want_none) rfl (fun _ c407 => q_move rfl) ?_
      rcases Bool.eq_false_or_eq_true (decide (i_1 ≤ j_4)) with c_3 | c_3
      · replace hM := hM.1 (of_decide_eq_true c_3)
        refine HA.val (k := 4) (v := .func (.func g_cmp) fs_cmp cs_cmp) rfl rfl (by kernel_rfl) (by kernel_rfl) (want_by rfl rfl c_3) rfl (fun _ c407 => q_move rfl) ?_
        refine HA.val (k := 5) (v := vdata) rfl rfl (by kernel_rfl) (by kernel_rfl) (want_by rfl rfl c_3) rfl (fun _ c407 => q_move rfl) ?_
        refine HA.val (k := 6) (v := .int .i64 j_4) rfl rfl (by kernel_rfl) (by kernel_rfl) (want_by rfl rfl c_3) rfl (fun _ c407 => q_move rfl) ?_
        obtain ⟨ho_9, hM⟩ := hM
        refine HA.val (k := 7) (v := elemPtr 1 vdata (j_4).toNat) rfl rfl (by kernel_rfl) (by kernel_rfl) (want_by rfl rfl c_3) rfl (fun _ c407 => q_idx ts_36 c407.slice rfl rfl ho_9) ?_
        refine HA.val (k := 8) (v := .string (bs (gi ((data.set (a).toNat (gi data pivot)).set (pivot).toNat (gi data a)) j_4))) rfl rfl (by kernel_rfl) (by kernel_rfl) (want_by rfl rfl c_3) rfl (fun _ c407 => q_ldElem to_9 c407.slice rfl ho_9 rfl) ?_
        refine HA.val (k := 9) (v := vdata) rfl rfl (by kernel_rfl) (by kernel_rfl) (want_by rfl rfl c_3) rfl (fun _ c407 => q_move rfl) ?_
        refine HA.val (k := 10) (v := .int .i64 a) rfl rfl (by kernel_rfl) (by kernel_rfl) (want_by rfl rfl c_3) rfl (fun _ c407 => q_move rfl) ?_
        obtain ⟨ho_10, hM⟩ := hM
        refine HA.val (k := 11) (v := elemPtr 1 vdata (a).toNat) rfl rfl (by kernel_rfl) (by kernel_rfl) (want_by rfl rfl c_3) rfl (fun _ c407 => q_idx ts_36 c407.slice rfl rfl ho_10) ?_
        refine HA.val (k := 12) (v := .string (bs (gi ((data.set (a).toNat (gi data pivot)).set (pivot).toNat (gi data a)) a))) rfl rfl (by kernel_rfl) (by kernel_rfl) (want_by rfl rfl c_3) rfl (fun _ c407 => q_ldElem to_9 c407.slice rfl ho_10 rfl) ?_
        refine HA.one (k := 13) ⟨(hS.own 0 rfl), (Go.Wk.at_nil _ _)⟩ (by kernel_rfl) ?_
        refine HS.call rfl (want_by rfl rfl c_3) rfl (hF_cf_cmp.ec ((gi ((data.set (a).toNat (gi data pivot)).set (pivot).toNat (gi data a)) j_4), (gi ((data.set (a).toNat (gi data pivot)).set (pivot).toNat (gi data a)) a)) rfl rfl) (hF_cf_cmp.hc ((gi ((data.set (a).toNat (gi data pivot)).set (pivot).toNat (gi data a)) j_4), (gi ((data.set (a).toNat (gi data pivot)).set (pivot).toNat (gi data a)) a)) hS) ?_
        rintro _ h_7 ⟨rfl, hS, hk⟩
        replace hK := hK.trans hk
        replace hF_cf_cmp := hF_cf_cmp.kp hk
        refine HA.val (k := 14) (v := .bool (decide ((cf_cmp (gi ((data.set (a).toNat (gi data pivot)).set (pivot).toNat (gi data a)) j_4) (gi ((data.set (a).toNat (gi data pivot)).set (pivot).toNat (gi data a)) a)) < 0))) rfl rfl (by kernel_rfl) (by kernel_rfl) (want_by rfl rfl c_3) rfl (fun _ c407 => q_lss rfl rfl) ?_
        refine HA.val (k := 15) (v := .bool (!decide ((cf_cmp (gi ((data.set (a).toNat (gi data pivot)).set (pivot).toNat (gi data a)) j_4) (gi ((data.set (a).toNat (gi data pivot)).set (pivot).toNat (gi data a)) a)) < 0))) rfl rfl (by kernel_rfl) (by kernel_rfl) (want_by rfl rfl c_3) rfl (fun _ c407 => q_not rfl) ?_
        refine HA.val (k := 16) (v := .bool (!decide ((cf_cmp (gi ((data.set (a).toNat (gi data pivot)).set (pivot).toNat (gi data a)) j_4) (gi ((data.set (a).toNat (gi data pivot)).set (pivot).toNat (gi data a)) a)) < 0))) rfl rfl (by kernel_rfl) (by kernel_rfl) (want_none) rfl (fun _ c407 => q_pickK true rfl c_3 rfl) ?_
        refine HA.nil ⟨(hS.own 0 rfl), (Go.Wk.at_nil _ _)⟩ (by kernel_rfl) (thenQ_normal (?_))
        refine HW.cond (!decide ((cf_cmp (gi ((data.set (a).toNat (gi data pivot)).set (pivot).toNat (gi data a)) j_4) (gi ((data.set (a).toNat (gi data pivot)).set (pivot).toNat (gi data a)) a)) < 0)) rfl (fun c_4 => ?_) (fun c_4 => ?_)
        · replace hM := hM.1 (nd_true c_4)
          refine HW.skip (thenQ_normal (?_))
          refine HW.block ?_
          refine HW.region ?_
          refine HO.val (v := .int .i64 j_4) (want_none) rfl (q_move rfl) ?_
          obtain ⟨ho_11, hM⟩ := hM
          refine HO.val (v := .int .i64 (j_4 - 1)) (want_none) rfl (q_subN _ rfl rfl rfl ho_11.1 ho_11.2) ?_
          refine HO.val (v := .int .i64 (j_4 - 1)) (want_none) rfl (q_assign rfl) ?_
          refine HO.nil (blockQ_normal (thenQ_normal (?_)))
          rw [hKe_2] at hM
          exact ⟨j_4 - 1, ⟨F_3, rfl, rfl, rfl, rfl, rfl, rfl, rfl, hK, hS, hF_cf_cmp, hM.1⟩, hM.2⟩
        · replace hM := hM.2 (nd_false c_4)
          refine HW.exit (thenQ_exit (thenQ_exit (blockQ_exit (thenQ_normal (?_)))))
          exact ⟨F_3, j_4, rfl, rfl, rfl, rfl, rfl, rfl, rfl, hK, hS, hF_cf_cmp, hM⟩
      · replace hM := hM.2 (of_decide_eq_false c_3)
        refine HA.past (k := 4) rfl rfl (by kernel_rfl) (by kernel_rfl) (past_by rfl rfl c_3) rfl ?_
        refine HA.past (k := 5) rfl rfl (by kernel_rfl) (by kernel_rfl) (past_by rfl rfl c_3) rfl ?_
        refine HA.past (k := 6) rfl rfl (by kernel_rfl) (by kernel_rfl) (past_by rfl rfl c_3) rfl ?_
        refine HA.past (k := 7) rfl rfl (by kernel_rfl) (by kernel_rfl) (past_by rfl rfl c_3) rfl ?_
        refine HA.past (k := 8) rfl rfl (by kernel_rfl) (by kernel_rfl) (past_by rfl rfl c_3) rfl ?_
        refine HA.past (k := 9) rfl rfl (by kernel_rfl) (by kernel_rfl) (past_by rfl rfl c_3) rfl ?_
        refine HA.past (k := 10) rfl rfl (by kernel_rfl) (by kernel_rfl) (past_by rfl rfl c_3) rfl ?_
        refine HA.past (k := 11) rfl rfl (by kernel_rfl) (by kernel_rfl) (past_by rfl rfl c_3) rfl ?_
        refine HA.past (k := 12) rfl rfl (by kernel_rfl) (by kernel_rfl) (past_by rfl rfl c_3) rfl ?_
        refine HA.one (k := 13) ⟨(hS.own 0 rfl), (Go.Wk.at_nil _ _)⟩ (by kernel_rfl) ?_
        refine HS.past rfl (past_by rfl rfl c_3) rfl ?_
        refine HA.past (k := 14) rfl rfl (by kernel_rfl) (by kernel_rfl) (past_by rfl rfl c_3) rfl ?_
        refine HA.past (k := 15) rfl rfl (by kernel_rfl) (by kernel_rfl) (past_by rfl rfl c_3) rfl ?_
        refine HA.val (k := 16) (v := .bool false) rfl rfl (by kernel_rfl) (by kernel_rfl) (want_none) rfl (fun _ c407 => q_pickK false rfl c_3 rfl) ?_
        refine HA.nil ⟨(hS.own 0 rfl), (Go.Wk.at_nil _ _)⟩ (by kernel_rfl) (thenQ_normal (?_))
        refine HW.condF rfl ?_
        refine HW.exit (thenQ_exit (thenQ_exit (blockQ_exit (thenQ_normal (?_)))))
        exact ⟨F_3, j_4, rfl, rfl, rfl, rfl, rfl, rfl, rfl, hK, hS, hF_cf_cmp, hM⟩
    · rintro f_4 h_8 ⟨F_4, j_2, e0, e1, e4, e10, e11, e12, e13, hK, hS, hF_cf_cmp, hM⟩
      unfold slices_partitionCmpFunc_string_j3 at hM
      refine HW.fr [(0, vdata), (1, .int .i64 a), (4, .func (.func g_cmp) fs_cmp cs_cmp), (10, .int .i64 0), (11, .bool false), (12, .int .i64 i_1), (13, .int .i64 j_2)] ⟨e0, e1, e4, e10, e11, e12, e13, trivial⟩ ?_
      refine HW.seq ?_
      refine HW.seq ?_
      refine HW.region ?_
      refine HO.val (v := .int .i64 i_1) (want_none) rfl (q_move rfl) ?_
      refine HO.val (v := .int .i64 j_2) (want_none) rfl (q_move rfl) ?_
      refine HO.val (v := .bool (decide (j_2 < i_1))) (want_none) rfl (q_gtr rfl rfl) ?_
      refine HO.nil (thenQ_normal (?_))
      refine HW.cond (decide (j_2 < i_1)) rfl (fun c_5 => ?_) (fun c_5 => ?_)
      · replace hM := hM.1 (of_decide_eq_true c_5)
        refine HW.seq ?_
        refine HW.regionA 16 mixed (fun h => True) [(13, fun h => (OwnIs h 0 9 1 encT vdata ((data.set (a).toNat (gi data pivot)).set (pivot).toNat (gi data a))))] (by kernel_rfl) ?_
        refine HA.val (k := 0) (v := vdata) rfl rfl (by kernel_rfl) (by kernel_rfl) (want_none) rfl (fun _ _ => q_move rfl) ?_
        refine HA.val (k := 1) (v := .int .i64 j_2) rfl rfl (by kernel_rfl) (by kernel_rfl) (want_none) rfl (fun _ _ => q_move rfl) ?_
        refine HA.val (k := 2) (v := vdata) rfl rfl (by kernel_rfl) (by kernel_rfl) (want_none) rfl (fun _ _ => q_move rfl) ?_
        refine HA.val (k := 3) (v := .int .i64 a) rfl rfl (by kernel_rfl) (by kernel_rfl) (want_none) rfl (fun _ _ => q_move rfl) ?_
        refine HA.val (k := 4) (v := vdata) rfl rfl (by kernel_rfl) (by kernel_rfl) (want_none) rfl (fun _ _ => q_move rfl) ?_
        refine HA.val (k := 5) (v := .int .i64 a) rfl rfl (by kernel_rfl) (by kernel_rfl) (want_none) rfl (fun _ _ => q_move rfl) ?_
        obtain ⟨ho_12, hM⟩ := hM
        refine Go.Wk.HA.valN (k := 6) (v := elemPtr 1 vdata (a).toNat) 0 13 (fun h => (OwnIs h 0 9 1 encT vdata ((data.set (a).toNat (gi data pivot)).set (pivot).toNat (gi data a)))) rfl rfl (by kernel_rfl) (by kernel_rfl) (want_none) rfl rfl (by kernel_rfl) (fun _ _ c306 => q_idx ts_36 c306.slice rfl rfl ho_12) ?_
        refine Go.Wk.HA.valN (k := 7) (v := .string (bs (gi ((data.set (a).toNat (gi data pivot)).set (pivot).toNat (gi data a)) a))) 0 13 (fun h => (OwnIs h 0 9 1 encT vdata ((data.set (a).toNat (gi data pivot)).set (pivot).toNat (gi data a)))) rfl rfl (by kernel_rfl) (by kernel_rfl) (want_none) rfl rfl (by kernel_rfl) (fun _ _ c306 => q_ldElem to_9 c306.slice rfl ho_12 rfl) ?_
        refine HA.val (k := 8) (v := vdata) rfl rfl (by kernel_rfl) (by kernel_rfl) (want_none) rfl (fun _ _ => q_move rfl) ?_
        refine HA.val (k := 9) (v := .int .i64 j_2) rfl rfl (by kernel_rfl) (by kernel_rfl) (want_none) rfl (fun _ _ => q_move rfl) ?_
        obtain ⟨ho_13, hM⟩ := hM
        refine Go.Wk.HA.valN (k := 10) (v := elemPtr 1 vdata (j_2).toNat) 0 13 (fun h => (OwnIs h 0 9 1 encT vdata ((data.set (a).toNat (gi data pivot)).set (pivot).toNat (gi data a)))) rfl rfl (by kernel_rfl) (by kernel_rfl) (want_none) rfl rfl (by kernel_rfl) (fun _ _ c306 => q_idx ts_36 c306.slice rfl rfl ho_13) ?_
        refine Go.Wk.HA.valN (k := 11) (v := .string (bs (gi ((data.set (a).toNat (gi data pivot)).set (pivot).toNat (gi data a)) j_2))) 0 13 (fun h => (OwnIs h 0 9 1 encT vdata ((data.set (a).toNat (gi data pivot)).set (pivot).toNat (gi data a)))) rfl rfl (by kernel_rfl) (by kernel_rfl) (want_none) rfl rfl (by kernel_rfl) (fun _ _ c306 => q_ldElem to_9 c306.slice rfl ho_13 rfl) ?_
        refine Go.Wk.HA.valN (k := 12) (v := elemPtr 1 vdata (j_2).toNat) 0 13 (fun h => (OwnIs h 0 9 1 encT vdata ((data.set (a).toNat (gi data pivot)).set (pivot).toNat (gi data a)))) rfl rfl (by kernel_rfl) (by kernel_rfl) (want_none) rfl rfl (by kernel_rfl) (fun _ _ c306 => q_idx ts_36 c306.slice rfl rfl ho_13) ?_
        refine HA.one (k := 13) ⟨trivial, (at_now (hS.own 0 rfl) (Go.Wk.at_nil _ _))⟩ (by kernel_rfl) ?_
        refine HS.sto rfl (want_none) rfl (st_storeField (a := (gi ((data.set (a).toNat (gi data pivot)).set (pivot).toNat (gi data a)) a)) (n := (j_2).toNat) (j := 0) hS (i := 0) rfl to_9 (elem_field _ _ _) (by omega) (by decide) rfl (by rw [← gi_lt ho_13.1 ho_13.2]; rfl) rfl rfl) ?_
        rintro h_9 ⟨hS, hk⟩
        replace hS : St F_4 (Ow.own 9 1 encT vdata (((data.set (a).toNat (gi data pivot)).set (pivot).toNat (gi data a)).set (j_2).toNat (gi ((data.set (a).toNat (gi data pivot)).set (pivot).toNat (gi data a)) a)) :: fr) h_9 := hS
        replace hK := hK.trans hk
        replace hF_cf_cmp := hF_cf_cmp.kp hk
        refine Go.Wk.HA.re (fun h => True) [(15, fun h => (OwnIs h 0 9 1 encT vdata (((data.set (a).toNat (gi data pivot)).set (pivot).toNat (gi data a)).set (j_2).toNat (gi ((data.set (a).toNat (gi data pivot)).set (pivot).toNat (gi data a)) a))))] (fun L_ h_ hL_ _ hs_ => ⟨trivial, (at_gone hL_ (by kernel_rfl) (Go.Wk.at_nil _ _))⟩) ?_
        obtain ⟨ho_14, hM⟩ := hM
        refine Go.Wk.HA.valN (k := 14) (v := elemPtr 1 vdata (a).toNat) 0 15 (fun h => (OwnIs h 0 9 1 encT vdata (((data.set (a).toNat (gi data pivot)).set (pivot).toNat (gi data a)).set (j_2).toNat (gi ((data.set (a).toNat (gi data pivot)).set (pivot).toNat (gi data a)) a)))) rfl rfl (by kernel_rfl) (by kernel_rfl) (want_none) rfl rfl (by kernel_rfl) (fun _ _ c306 => q_idx ts_36 c306.slice rfl rfl ho_14) ?_
        refine HA.one (k := 15) ⟨trivial, (at_now (hS.own 0 rfl) (Go.Wk.at_nil _ _))⟩ (by kernel_rfl) ?_
        refine HS.sto rfl (want_none) rfl (st_storeField (a := (gi ((data.set (a).toNat (gi data pivot)).set (pivot).toNat (gi data a)) j_2)) (n := (a).toNat) (j := 0) hS (i := 0) rfl to_9 (elem_field _ _ _) (by omega) (by decide) rfl (by rw [← gi_lt ho_14.1 ho_14.2]; rfl) rfl rfl) ?_
        rintro h_10 ⟨hS, hk⟩
        replace hS : St F_4 (Ow.own 9 1 encT vdata ((((data.set (a).toNat (gi data pivot)).set (pivot).toNat (gi data a)).set (j_2).toNat (gi ((data.set (a).toNat (gi data pivot)).set (pivot).toNat (gi data a)) a)).set (a).toNat (gi ((data.set (a).toNat (gi data pivot)).set (pivot).toNat (gi data a)) j_2)) :: fr) h_10 := hS
        replace hK := hK.trans hk
        replace hF_cf_cmp := hF_cf_cmp.kp hk
        refine HA.nil ⟨trivial, (at_done (by kernel_rfl) (Go.Wk.at_nil _ _))⟩ (by kernel_rfl) (thenQ_normal (?_))
        refine HW.seq ?_
        refine HW.region ?_
        refine HO.val (v := .int .i64 j_2) (want_none) rfl (q_move rfl) ?_
        refine HO.val (v := .int .i64 j_2) (want_none) rfl (q_assign rfl) ?_
        refine HO.val (v := .bool true) (want_none) rfl (q_assign rfl) ?_
        refine HO.nil (thenQ_normal (?_))
        refine HW.ret (thenQ_ret (?_))
        refine ⟨.inr rfl, .tuple #[.int .i64 j_2, .bool true], res2 rfl (rt rfl) (rt rfl), ?_⟩
        exact ⟨F_4, j_2, true, (((data.set (a).toNat (gi data pivot)).set (pivot).toNat (gi data a)).set (j_2).toNat (gi ((data.set (a).toNat (gi data pivot)).set (pivot).toNat (gi data a)) a)).set (a).toNat (gi ((data.set (a).toNat (gi data pivot)).set (pivot).toNat (gi data a)) j_2), rfl, hK, hS, hF_cf_cmp, hM⟩
      · replace hM := hM.2 (of_decide_eq_false c_5)
        refine HW.skip (thenQ_normal (?_))
        refine HW.seq ?_
        refine HW.regionA 16 mixed (fun h => True) [(13, fun h => (OwnIs h 0 9 1 encT vdata ((data.set (a).toNat (gi data pivot)).set (pivot).toNat (gi data a))))] (by kernel_rfl) ?_
        refine HA.val (k := 0) (v := vdata) rfl rfl (by kernel_rfl) (by kernel_rfl) (want_none) rfl (fun _ _ => q_move rfl) ?_
        refine HA.val (k := 1) (v := .int .i64 i_1) rfl rfl (by kernel_rfl) (by kernel_rfl) (want_none) rfl (fun _ _ => q_move rfl) ?_
        refine HA.val (k := 2) (v := vdata) rfl rfl (by kernel_rfl) (by kernel_rfl) (want_none) rfl (fun _ _ => q_move rfl) ?_
        refine HA.val (k := 3) (v := .int .i64 j_2) rfl rfl (by kernel_rfl) (by kernel_rfl) (want_none) rfl (fun _ _ => q_move rfl) ?_
        refine HA.val (k := 4) (v := vdata) rfl rfl (by kernel_rfl) (by kernel_rfl) (want_none) rfl (fun _ _ => q_move rfl) ?_
        refine HA.val (k := 5) (v := .int .i64 j_2) rfl rfl (by kernel_rfl) (by kernel_rfl) (want_none) rfl (fun _ _ => q_move rfl) ?_
        obtain ⟨ho_15, hM⟩ := hM
        refine Go.Wk.HA.valN (k := 6) (v := elemPtr 1 vdata (j_2).toNat) 0 13 (fun h => (OwnIs h 0 9 1 encT vdata ((data.set (a).toNat (gi data pivot)).set (pivot).toNat (gi data a)))) rfl rfl (by kernel_rfl) (by kernel_rfl) (want_none) rfl rfl (by kernel_rfl) (fun _ _ c306 => q_idx ts_36 c306.slice rfl rfl ho_15) ?_
        refine Go.Wk.HA.valN (k := 7) (v := .string (bs (gi ((data.set (a).toNat (gi data pivot)).set (pivot).toNat (gi data a)) j_2))) 0 13 (fun h => (OwnIs h 0 9 1 encT vdata ((data.set (a).toNat (gi data pivot)).set (pivot).toNat (gi data a)))) rfl rfl (by kernel_rfl) (by kernel_rfl) (want_none) rfl rfl (by kernel_rfl) (fun _ _ c306 => q_ldElem to_9 c306.slice rfl ho_15 rfl) ?_
        refine HA.val (k := 8) (v := vdata) rfl rfl (by kernel_rfl) (by kernel_rfl) (want_none) rfl (fun _ _ => q_move rfl) ?_
        refine HA.val (k := 9) (v := .int .i64 i_1) rfl rfl (by kernel_rfl) (by kernel_rfl) (want_none) rfl (fun _ _ => q_move rfl) ?_
        obtain ⟨ho_16, hM⟩ := hM
        refine Go.Wk.HA.valN (k := 10) (v := elemPtr 1 vdata (i_1).toNat) 0 13 (fun h => (OwnIs h 0 9 1 encT vdata ((data.set (a).toNat (gi data pivot)).set (pivot).toNat (gi data a)))) rfl rfl (by kernel_rfl) (by kernel_rfl) (want_none) rfl rfl (by kernel_rfl) (fun _ _ c306 => q_idx ts_36 c306.slice rfl rfl ho_16) ?_
        refine Go.Wk.HA.valN (k := 11) (v := .string (bs (gi ((data.set (a).toNat (gi data pivot)).set (pivot).toNat (gi data a)) i_1))) 0 13 (fun h => (OwnIs h 0 9 1 encT vdata ((data.set (a).toNat (gi data pivot)).set (pivot).toNat (gi data a)))) rfl rfl (by kernel_rfl) (by kernel_rfl) (want_none) rfl rfl (by kernel_rfl) (fun _ _ c306 => q_ldElem to_9 c306.slice rfl ho_16 rfl) ?_
        refine Go.Wk.HA.valN (k := 12) (v := elemPtr 1 vdata (i_1).toNat) 0 13 (fun h => (OwnIs h 0 9 1 encT vdata ((data.set (a).toNat (gi data pivot)).set (pivot).toNat (gi data a)))) rfl rfl (by kernel_rfl) (by kernel_rfl) (want_none) rfl rfl (by kernel_rfl) (fun _ _ c306 => q_idx ts_36 c306.slice rfl rfl ho_16) ?_
        refine HA.one (k := 13) ⟨trivial, (at_now (hS.own 0 rfl) (Go.Wk.at_nil _ _))⟩ (by kernel_rfl) ?_
        refine HS.sto rfl (want_none) rfl (st_storeField (a := (gi ((data.set (a).toNat (gi data pivot)).set (pivot).toNat (gi data a)) j_2)) (n := (i_1).toNat) (j := 0) hS (i := 0) rfl to_9 (elem_field _ _ _) (by omega) (by decide) rfl (by rw [← gi_lt ho_16.1 ho_16.2]; rfl) rfl rfl) ?_
        rintro h_11 ⟨hS, hk⟩
        replace hS : St F_4 (Ow.own 9 1 encT vdata (((data.set (a).toNat (gi data pivot)).set (pivot).toNat (gi data a)).set (i_1).toNat (gi ((data.set (a).toNat (gi data pivot)).set (pivot).toNat (gi data a)) j_2)) :: fr) h_11 := hS
        replace hK := hK.trans hk
        replace hF_cf_cmp := hF_cf_cmp.kp hk
        refine Go.Wk.HA.re (fun h => True) [(15, fun h => (OwnIs h 0 9 1 encT vdata (((data.set (a).toNat (gi data pivot)).set (pivot).toNat (gi data a)).set (i_1).toNat (gi ((data.set (a).toNat (gi data pivot)).set (pivot).toNat (gi data a)) j_2))))] (fun L_ h_ hL_ _ hs_ => ⟨trivial, (at_gone hL_ (by kernel_rfl) (Go.Wk.at_nil _ _))⟩) ?_
        obtain ⟨ho_17, hM⟩ := hM
        refine Go.Wk.HA.valN (k := 14) (v := elemPtr 1 vdata (j_2).toNat) 0 15 (fun h => (OwnIs h 0 9 1 encT vdata (((data.set (a).toNat (gi data pivot)).set (pivot).toNat (gi data a)).set (i_1).toNat (gi ((data.set (a).toNat (gi data pivot)).set (pivot).toNat (gi data a)) j_2)))) rfl rfl (by kernel_rfl) (by kernel_rfl) (want_none) rfl rfl (by kernel_rfl) (fun _ _ c306 => q_idx ts_36 c306.slice rfl rfl ho_17) ?_
        refine HA.one (k := 15) ⟨trivial, (at_now (hS.own 0 rfl) (Go.Wk.at_nil _ _))⟩ (by kernel_rfl) ?_
        refine HS.sto rfl (want_none) rfl (st_storeField (a := (gi ((data.set (a).toNat (gi data pivot)).set (pivot).toNat (gi data a)) i_1)) (n := (j_2).toNat) (j := 0) hS (i := 0) rfl to_9 (elem_field _ _ _) (by omega) (by decide) rfl (by rw [← gi_lt ho_17.1 ho_17.2]; rfl) rfl rfl) ?_
        rintro h_12 ⟨hS, hk⟩
        replace hS : St F_4 (Ow.own 9 1 encT vdata ((((data.set (a).toNat (gi data pivot)).set (pivot).toNat (gi data a)).set (i_1).toNat (gi ((data.set (a).toNat (gi data pivot)).set (pivot).toNat (gi data a)) j_2)).set (j_2).toNat (gi ((data.set (a).toNat (gi data pivot)).set (pivot).toNat (gi data a)) i_1)) :: fr) h_12 := hS
        replace hK := hK.trans hk
        replace hF_cf_cmp := hF_cf_cmp.kp hk
        refine HA.nil ⟨trivial, (at_done (by kernel_rfl) (Go.Wk.at_nil _ _))⟩ (by kernel_rfl) (thenQ_normal (?_))
        refine HW.seq ?_
        refine HW.region ?_
        refine HO.val (v := .int .i64 i_1) (want_none) rfl (q_move rfl) ?_
        obtain ⟨ho_18, hM⟩ := hM
        refine HO.val (v := .int .i64 (i_1 + 1)) (want_none) rfl (q_addN _ rfl rfl rfl ho_18.1 ho_18.2) ?_
        refine HO.val (v := .int .i64 (i_1 + 1)) (want_none) rfl (q_assign rfl) ?_
        refine HO.nil (thenQ_normal (?_))
        refine HW.seq ?_
        refine HW.region ?_
        refine HO.val (v := .int .i64 j_2) (want_none) rfl (q_move rfl) ?_
        obtain ⟨ho_19, hM⟩ := hM
        refine HO.val (v := .int .i64 (j_2 - 1)) (want_none) rfl (q_subN _ rfl rfl rfl ho_19.1 ho_19.2) ?_
        refine HO.val (v := .int .i64 (j_2 - 1)) (want_none) rfl (q_assign rfl) ?_
        refine HO.nil (thenQ_normal (?_))
        refine HW.seq ?_
        refine HW.block ?_
        obtain ⟨I_3, m_3, hI_3, hR_3⟩ := hM
        refine HW.loop (S := List Str × Int × Int) (fun s f h => match s with | (data_2, i_3, j_5) => ∃ (F' : Fz), f 0 = vdata ∧ f 1 = .int .i64 a ∧ f 4 = .func (.func g_cmp) fs_cmp cs_cmp ∧ f 10 = .int .i64 0 ∧ f 11 = .bool false ∧ f 12 = .int .i64 i_3 ∧ f 13 = .int .i64 j_5 ∧ Kp F h0 F' h ∧ St F' (Ow.own 9 1 encT vdata data_2 :: fr) h ∧ (FnP Try.prog F' h g_cmp fs_cmp cs_cmp (fun x : Str × Str => [.string (bs x.1), .string (bs x.2)]) (fun x => .int .i64 (cf_cmp x.1 x.2))) ∧ I_3 (data_2, i_3, j_5)) m_3 ((((data.set (a).toNat (gi data pivot)).set (pivot).toNat (gi data a)).set (i_1).toNat (gi ((data.set (a).toNat (gi data pivot)).set (pivot).toNat (gi data a)) j_2)).set (j_2).toNat (gi ((data.set (a).toNat (gi data pivot)).set (pivot).toNat (gi data a)) i_1), i_1 + 1, j_2 - 1) ⟨F_4, rfl, rfl, rfl, rfl, rfl, rfl, rfl, hK, hS, hF_cf_cmp, hI_3⟩ ?_
        rintro ⟨data_2, i_3, j_5⟩ f_5 h_13 ⟨F_5, e0, e1, e4, e10, e11, e12, e13, hK, hS, hF_cf_cmp, hI0⟩
        obtain ⟨K_3, hKe_3⟩ : ∃ K : (List Str) → Int → Int → Prop, K = fun data_2' i_3' j_5' => I_3 (data_2', i_3', j_5') ∧ m_3 (data_2', i_3', j_5') < m_3 (data_2, i_3, j_5) := ⟨_, rfl⟩
        have hM : slices_partitionCmpFunc_string_l3 a cf_cmp Q K_3 data_2 i_3 j_5 := by rw [hKe_3]; exact hR_3 (data_2, i_3, j_5) hI0
        unfold slices_partitionCmpFunc_string_l3 at hM
        refine HW.fr [(0, vdata), (1, .int .i64 a), (4, .func (.func g_cmp) fs_cmp cs_cmp), (10, .int .i64 0), (11, .bool false), (12, .int .i64 i_3), (13, .int .i64 j_5)] ⟨e0, e1, e4, e10, e11, e12, e13, trivial⟩ ?_
        refine HW.block ?_
        refine HW.seq_mid (fun f h => ∃ (F' : Fz) (i_4 : Int), f 0 = vdata ∧ f 1 = .int .i64 a ∧ f 4 = .func (.func g_cmp) fs_cmp cs_cmp ∧ f 10 = .int .i64 0 ∧ f 11 = .bool false ∧ f 12 = .int .i64 i_4 ∧ f 13 = .int .i64 j_5 ∧ Kp F h0 F' h ∧ St F' (Ow.own 9 1 encT vdata data_2 :: fr) h ∧ (FnP Try.prog F' h g_cmp fs_cmp cs_cmp (fun x : Str × Str => [.string (bs x.1), .string (bs x.2)]) (fun x => .int .i64 (cf_cmp x.1 x.2))) ∧ slices_partitionCmpFunc_string_j6 a cf_cmp Q data_2 j_5 K_3 i_4) ?_ ?_
        · refine HW.block ?_
          obtain ⟨I_4, m_4, hI_4, hR_4⟩ := hM
          refine HW.loop (S := Int) (fun i_5 f h => ∃ (F' : Fz), f 0 = vdata ∧ f 1 = .int .i64 a ∧ f 4 = .func (.func g_cmp) fs_cmp cs_cmp ∧ f 10 = .int .i64 0 ∧ f 11 = .bool false ∧ f 12 = .int .i64 i_5 ∧ f 13 = .int .i64 j_5 ∧ Kp F h0 F' h ∧ St F' (Ow.own 9 1 encT vdata data_2 :: fr) h ∧ (FnP Try.prog F' h g_cmp fs_cmp cs_cmp (fun x : Str × Str => [.string (bs x.1), .string (bs x.2)]) (fun x => .int .i64 (cf_cmp x.1 x.2))) ∧ I_4 i_5) m_4 i_3 ⟨F_5, rfl, rfl, rfl, rfl, rfl, rfl, rfl, hK, hS, hF_cf_cmp, hI_4⟩ ?_
          rintro i_5 f_6 h_14 ⟨F_6, e0, e1, e4, e10, e11, e12, e13, hK, hS, hF_cf_cmp, hI0⟩
          obtain ⟨K_4, hKe_4⟩ : ∃ K : Int → Prop, K = fun i_5' => I_4 i_5' ∧ m_4 i_5' < m_4 i_5 := ⟨_, rfl⟩
          have hM : slices_partitionCmpFunc_string_l4 a cf_cmp Q data_2 j_5 K_3 K_4 i_5 := by rw [hKe_4]; exact hR_4 i_5 hI0
          unfold slices_partitionCmpFunc_string_l4 at hM
          refine HW.fr [(0, vdata), (1, .int .i64 a), (4, .func (.func g_cmp) fs_cmp cs_cmp), (10, .int .i64 0), (11, .bool false), (12, .int .i64 i_5), (13, .int .i64 j_5)] ⟨e0, e1, e4, e10, e11, e12, e13, trivial⟩ ?_
          refine HW.seq ?_
          refine HW.seq ?_
          refine HW.regionA 16 mixed (fun h => (OwnIs h 0 9 1 encT vdata data_2)) [] (by kernel_rfl) ?_
          refine HA.val (k := 0) (v := .int .i64 i_5) rfl rfl (by kernel_rfl) (by kernel_rfl) (want_none) rfl (fun _ c661 => q_move rfl) ?_
          refine HA.val (k := 1) (v := .int .i64 j_5) rfl rfl (by kernel_rfl) (by kernel_rfl) (want_none) rfl (fun _ c661 => q_move rfl) ?_
          refine HA.val (k := 2) (v := .bool (decide (i_5 ≤ j_5))) rfl rfl (by kernel_rfl) (by kernel_rfl) (want_none) rfl (fun _ c661 => q_leq rfl rfl) ?_
          refine HA.val (k := 3) (v := .bool (decide (i_5 ≤ j_5))) rfl rfl (by kernel_rfl) (by kernel_rfl) (want_none) rfl (fun _ c661 => q_move rfl) ?_
          rcases Bool.eq_false_or_eq_true (decide (i_5 ≤ j_5)) with c_6 | c_6
          · replace hM := hM.1 (of_decide_eq_true c_6)
            refine HA.val (k := 4) (v := .func (.func g_cmp) fs_cmp cs_cmp) rfl rfl (by kernel_rfl) (by kernel_rfl) (want_by rfl rfl c_6) rfl (fun _ c661 => q_move rfl) ?_
            refine HA.val (k := 5) (v := vdata) rfl rfl (by kernel_rfl) (by kernel_rfl) (want_by rfl rfl c_6) rfl (fun _ c661 => q_move rfl) ?_
            refine HA.val (k := 6) (v := .int .i64 i_5) rfl rfl (by kernel_rfl) (by kernel_rfl) (want_by rfl rfl c_6) rfl (fun _ c661 => q_move rfl) ?_
            obtain ⟨ho_20, hM⟩ := hM
            refine HA.val (k := 7) (v := elemPtr 1 vdata (i_5).toNat) rfl rfl (by kernel_rfl) (by kernel_rfl) (want_by rfl rfl c_6) rfl (fun _ c661 => q_idx ts_36 c661.slice rfl rfl ho_20) ?_
            refine HA.val (k := 8) (v := .string (bs (gi data_2 i_5))) rfl rfl (by kernel_rfl) (by kernel_rfl) (want_by rfl rfl c_6) rfl (fun _ c661 => q_ldElem to_9 c661.slice rfl ho_20 rfl) ?_
            refine HA.val (k := 9) (v := vdata) rfl rfl (by kernel_rfl) (by kernel_rfl) (want_by rfl rfl c_6) rfl (fun _ c661 => q_move rfl) ?_
            refine HA.val (k := 10) (v := .int .i64 a) rfl rfl (by kernel_rfl) (by kernel_rfl) (want_by rfl rfl c_6) rfl (fun _ c661 => q_move rfl) ?_
            obtain ⟨ho_21, hM⟩ := hM
            refine HA.val (k := 11) (v := elemPtr 1 vdata (a).toNat) rfl rfl (by kernel_rfl) (by kernel_rfl) (want_by rfl rfl c_6) rfl (fun _ c661 => q_idx ts_36 c661.slice rfl rfl ho_21) ?_
            refine HA.val (k := 12) (v := .string (bs (gi data_2 a))) rfl rfl (by kernel_rfl) (by kernel_rfl) (want_by rfl rfl c_6) rfl (fun _ c661 => q_ldElem to_9 c661.slice rfl ho_21 rfl) ?_
            refine HA.one (k := 13) ⟨(hS.own 0 rfl), (Go.Wk.at_nil _ _)⟩ (by kernel_rfl) ?_
            refine HS.call rfl (want_by rfl rfl c_6) rfl (hF_cf_cmp.ec ((gi data_2 i_5), (gi data_2 a)) rfl rfl) (hF_cf_cmp.hc ((gi data_2 i_5), (gi data_2 a)) hS) ?_
            rintro _ h_15 ⟨rfl, hS, hk⟩
            replace hK := hK.trans hk
            replace hF_cf_cmp := hF_cf_cmp.kp hk
            refine HA.val (k := 14) (v := .bool (decide ((cf_cmp (gi data_2 i_5) (gi data_2 a)) < 0))) rfl rfl (by kernel_rfl) (by kernel_rfl) (want_by rfl rfl c_6) rfl (fun _ c661 => q_lss rfl rfl) ?_
            refine HA.val (k := 15) (v := .bool (decide ((cf_cmp (gi data_2 i_5) (gi data_2 a)) < 0))) rfl rfl (by kernel_rfl) (by kernel_rfl) (want_none) rfl (fun _ c661 => q_pickK true rfl c_6 rfl) ?_
            refine HA.nil ⟨(hS.own 0 rfl), (Go.Wk.at_nil _ _)⟩ (by kernel_rfl) (thenQ_normal (?_))
            refine HW.cond (decide ((cf_cmp (gi data_2 i_5) (gi data_2 a)) < 0)) rfl (fun c_7 => ?_) (fun c_7 => ?_)
            · replace hM := hM.1 (of_decide_eq_true c_7)
              refine HW.skip (thenQ_normal (?_))
              refine HW.block ?_
              refine HW.region ?_
              refine HO.val (v := .int .i64 i_5) (want_none) rfl (q_move rfl) ?_
              obtain ⟨ho_22, hM⟩ := hM
              refine HO.val (v := .int .i64 (i_5 + 1)) (want_none) rfl (q_addN _ rfl rfl rfl ho_22.1 ho_22.2) ?_
              refine HO.val (v := .int .i64 (i_5 + 1)) (want_none) rfl (q_assign rfl) ?_
              refine HO.nil (blockQ_normal (thenQ_normal (?_)))
              rw [hKe_4] at hM
              exact ⟨i_5 + 1, ⟨F_6, rfl, rfl, rfl, rfl, rfl, rfl, rfl, hK, hS, hF_cf_cmp, hM.1⟩, hM.2⟩
            · replace hM := hM.2 (of_decide_eq_false c_7)
              refine HW.exit (thenQ_exit (thenQ_exit (blockQ_exit (thenQ_normal (?_)))))
              exact ⟨F_6, i_5, rfl, rfl, rfl, rfl, rfl, rfl, rfl, hK, hS, hF_cf_cmp, hM⟩
          · replace hM := hM.2 (of_decide_eq_false c_6)
            refine HA.past (k := 4) rfl rfl (by kernel_rfl) (by kernel_rfl) (past_by rfl rfl c_6) rfl ?_
            refine HA.past (k := 5) rfl rfl (by kernel_rfl) (by kernel_rfl) (past_by rfl rfl c_6) rfl ?_
            refine HA.past (k := 6) rfl rfl (by kernel_rfl) (by kernel_rfl) (past_by rfl rfl c_6) rfl ?_
            refine HA.past (k := 7) rfl rfl (by kernel_rfl) (by kernel_rfl) (past_by rfl rfl c_6) rfl ?_
            refine HA.past (k := 8) rfl rfl (by kernel_rfl) (by kernel_rfl) (past_by rfl rfl c_6) rfl ?_
            refine HA.past (k := 9) rfl rfl (by kernel_rfl) (by kernel_rfl) (past_by rfl rfl c_6) rfl ?_
            refine HA.past (k := 10) rfl rfl (by kernel_rfl) (by kernel_rfl) (past_by rfl rfl c_6) rfl ?_
            refine HA.past (k := 11) rfl rfl (by kernel_rfl) (by kernel_rfl) (past_by rfl rfl c_6) rfl ?_
            refine HA.past (k := 12) rfl rfl (by kernel_rfl) (by kernel_rfl) (past_by rfl rfl c_6) rfl ?_
            refine HA.one (k := 13) ⟨(hS.own 0 rfl), (Go.Wk.at_nil _ _)⟩ (by kernel_rfl) ?_
            refine HS.past rfl (past_by rfl rfl c_6) rfl ?_
            refine HA.past (k := 14) rfl rfl (by kernel_rfl) (by kernel_rfl) (past_by rfl rfl c_6) rfl ?_
            refine HA.val (k := 15) (v := .bool false) rfl rfl (by kernel_rfl) (by kernel_rfl) (want_none) rfl (fun _ c661 => q_pickK false rfl c_6 rfl) ?_
            refine HA.nil ⟨(hS.own 0 rfl), (Go.Wk.at_nil _ _)⟩ (by kernel_rfl) (thenQ_normal (?_))
            refine HW.condF rfl ?_
            refine HW.exit (thenQ_exit (thenQ_exit (blockQ_exit (thenQ_normal (?_)))))
            exact ⟨F_6, i_5, rfl, rfl, rfl, rfl, rfl, rfl, rfl, hK, hS, hF_cf_cmp, hM⟩
        · rintro f_7 h_16 ⟨F_7, i_4, e0, e1, e4, e10, e11, e12, e13, hK, hS, hF_cf_cmp, hM⟩
          unfold slices_partitionCmpFunc_string_j6 at hM
          refine HW.fr [(0, vdata), (1, .int .i64 a), (4, .func (.func g_cmp) fs_cmp cs_cmp), (10, .int .i64 0), (11, .bool false), (12, .int .i64 i_4), (13, .int .i64 j_5)] ⟨e0, e1, e4, e10, e11, e12, e13, trivial⟩ ?_
          refine HW.seq_mid (fun f h => ∃ (F' : Fz) (j_7 : Int), f 0 = vdata ∧ f 1 = .int .i64 a ∧ f 4 = .func (.func g_cmp) fs_cmp cs_cmp ∧ f 10 = .int .i64 0 ∧ f 11 = .bool false ∧ f 12 = .int .i64 i_4 ∧ f 13 = .int .i64 j_7 ∧ Kp F h0 F' h ∧ St F' (Ow.own 9 1 encT vdata data_2 :: fr) h ∧ (FnP Try.prog F' h g_cmp fs_cmp cs_cmp (fun x : Str × Str => [.string (bs x.1), .string (bs x.2)]) (fun x => .int .i64 (cf_cmp x.1 x.2))) ∧ slices_partitionCmpFunc_string_j8 a Q data_2 K_3 i_4 j_7) ?_ ?_
          · refine HW.block ?_
            obtain ⟨I_5, m_5, hI_5, hR_5⟩ := hM
            refine HW.loop (S := Int) (fun j_9 f h => ∃ (F' : Fz), f 0 = vdata ∧ f 1 = .int .i64 a ∧ f 4 = .func (.func g_cmp) fs_cmp cs_cmp ∧ f 10 = .int .i64 0 ∧ f 11 = .bool false ∧ f 12 = .int .i64 i_4 ∧ f 13 = .int .i64 j_9 ∧ Kp F h0 F' h ∧ St F' (Ow.own 9 1 encT vdata data_2 :: fr) h ∧ (FnP Try.prog F' h g_cmp fs_cmp cs_cmp (fun x : Str × Str => [.string (bs x.1), .string (bs x.2)]) (fun x => .int .i64 (cf_cmp x.1 x.2))) ∧ I_5 j_9) m_5 j_5 ⟨F_7, rfl, rfl, rfl, rfl, rfl, rfl, rfl, hK, hS, hF_cf_cmp, hI_5⟩ ?_
            rintro j_9 f_8 h_17 ⟨F_8, e0, e1, e4, e10, e11, e12, e13, hK, hS, hF_cf_cmp, hI0⟩
            obtain ⟨K_5, hKe_5⟩ : ∃ K : Int → Prop, K = fun j_9' => I_5 j_9' ∧ m_5 j_9' < m_5 j_9 := ⟨_, rfl⟩
            have hM : slices_partitionCmpFunc_string_l5 a cf_cmp Q data_2 K_3 i_4 K_5 j_9 := by rw [hKe_5]; exact hR_5 j_9 hI0
            unfold slices_partitionCmpFunc_string_l5 at hM
            refine HW.fr [(0, vdata), (1, .int .i64 a), (4, .func (.func g_cmp) fs_cmp cs_cmp), (10, .int .i64 0), (11, .bool false), (12, .int .i64 i_4), (13, .int .i64 j_9)] ⟨e0, e1, e4, e10, e11, e12, e13, trivial⟩ ?_
            refine HW.seq ?_
            refine HW.seq ?_
            refine HW.regionA 17 mixed (fun h => (OwnIs h 0 9 1 encT vdata data_2)) [] (by kernel_rfl) ?_
            refine HA.val (k := 0) (v := .int .i64 i_4) rfl rfl (by kernel_rfl) (by kernel_rfl) (want_none) rfl (fun _ c662 => q_move rfl) ?_
            refine HA.val (k := 1) (v := .int .i64 j_9) rfl rfl (by kernel_rfl) (by kernel_rfl) (want_none) rfl (fun _ c662 => q_move rfl) ?_
            refine HA.val (k := 2) (v := .bool (decide (i_4 ≤ j_9))) rfl rfl (by kernel_rfl) (by kernel_rfl) (want_none) rfl (fun _ c662 => q_leq rfl rfl) ?_
            refine HA.val (k := 3) (v := .bool (decide (i_4 ≤ j_9))) rfl rfl (by kernel_rfl) (by kernel_rfl) (want_none) rfl (fun _ c662 => q_move rfl) ?_
            rcases Bool.eq_false_or_eq_true (decide (i_4 ≤ j_9)) with c_8 | c_8
            · replace hM := hM.1 (of_decide_eq_true c_8)
              refine HA.val (k := 4) (v := .func (.func g_cmp) fs_cmp cs_cmp) rfl rfl (by kernel_rfl) (by kernel_rfl) (want_by rfl rfl c_8) rfl (fun _ c662 => q_move rfl) ?_
              refine HA.val (k := 5) (v := vdata) rfl rfl (by kernel_rfl) (by kernel_rfl) (want_by rfl rfl c_8) rfl (fun _ c662 => q_move rfl) ?_
              refine HA.val (k := 6) (v := .int .i64 j_9) rfl rfl (by kernel_rfl) (by kernel_rfl) (want_by rfl rfl c_8) rfl (fun _ c662 => q_move rfl) ?_
              obtain ⟨ho_23, hM⟩ := hM
              refine HA.val (k := 7) (v := elemPtr 1 vdata (j_9).toNat) rfl rfl (by kernel_rfl) (by kernel_rfl) (want_by rfl rfl c_8) rfl (fun _ c662 => q_idx ts_36 c662.slice rfl rfl ho_23) ?_
              refine HA.val (k := 8) (v := .string (bs (gi data_2 j_9))) rfl rfl (by kernel_rfl) (by kernel_rfl) (want_by rfl rfl c_8) rfl (fun _ c662 => q_ldElem to_9 c662.slice rfl ho_23 rfl) ?_
              refine HA.val (k := 9) (v := vdata) rfl rfl (by kernel_rfl) (by kernel_rfl) (want_by rfl rfl c_8) rfl (fun _ c662 => q_move rfl) ?_
              refine HA.val (k := 10) (v := .int .i64 a) rfl rfl (by kernel_rfl) (by kernel_rfl) (want_by rfl rfl c_8) rfl (fun _ c662 => q_move rfl) ?_
              obtain ⟨ho_24, hM⟩ := hM
              refine HA.val (k := 11) (v := elemPtr 1 vdata (a).toNat) rfl rfl (by kernel_rfl) (by kernel_rfl) (want_by rfl rfl c_8) rfl (fun _ c662 => q_idx ts_36 c662.slice rfl rfl ho_24) ?_
              refine HA.val (k := 12) (v := .string (bs (gi data_2 a))) rfl rfl (by kernel_rfl) (by kernel_rfl) (want_by rfl rfl c_8) rfl (fun _ c662 => q_ldElem to_9 c662.slice rfl ho_24 rfl) ?_
              refine HA.one (k := 13) ⟨(hS.own 0 rfl), (Go.Wk.at_nil _ _)⟩ (by kernel_rfl) ?_
              refine HS.call rfl (want_by rfl rfl c_8) rfl (hF_cf_cmp.ec ((gi data_2 j_9), (gi data_2 a)) rfl rfl) (hF_cf_cmp.hc ((gi data_2 j_9), (gi data_2 a)) hS) ?_
              rintro _ h_18 ⟨rfl, hS, hk⟩
              replace hK := hK.trans hk
              replace hF_cf_cmp := hF_cf_cmp.kp hk
              refine HA.val (k := 14) (v := .bool (decide ((cf_cmp (gi data_2 j_9) (gi data_2 a)) < 0))) rfl rfl (by kernel_rfl) (by kernel_rfl) (want_by rfl rfl c_8) rfl (fun _ c662 => q_lss rfl rfl) ?_
              refine HA.val (k := 15) (v := .bool (!decide ((cf_cmp (gi data_2 j_9) (gi data_2 a)) < 0))) rfl rfl (by kernel_rfl) (by kernel_rfl) (want_by rfl rfl c_8) rfl (fun _ c662 => q_not rfl) ?_
              refine HA.val (k := 16) (v := .bool (!decide ((cf_cmp (gi data_2 j_9) (gi data_2 a)) < 0))) rfl rfl (by kernel_rfl) (by kernel_rfl) (want_none) rfl (fun _ c662 => q_pickK true rfl c_8 rfl) ?_
              refine HA.nil ⟨(hS.own 0 rfl), (Go.Wk.at_nil _ _)⟩ (by kernel_rfl) (thenQ_normal (?_))
              refine HW.cond (!decide ((cf_cmp (gi data_2 j_9) (gi data_2 a)) < 0)) rfl (fun c_9 => ?_) (fun c_9 => ?_)
              · replace hM := hM.1 (nd_true c_9)
                refine HW.skip (thenQ_normal (?_))
                refine HW.block ?_
                refine HW.region ?_
                refine HO.val (v := .int .i64 j_9) (want_none) rfl (q_move rfl) ?_
                obtain ⟨ho_25, hM⟩ := hM
                refine HO.val (v := .int .i64 (j_9 - 1)) (want_none) rfl (q_subN _ rfl rfl rfl ho_25.1 ho_25.2) ?_
                refine HO.val (v := .int .i64 (j_9 - 1)) (want_none) rfl (q_assign rfl) ?_
                refine HO.nil (blockQ_normal (thenQ_normal (?_)))
                rw [hKe_5] at hM
                exact ⟨j_9 - 1, ⟨F_8, rfl, rfl, rfl, rfl, rfl, rfl, rfl, hK, hS, hF_cf_cmp, hM.1⟩, hM.2⟩
              · replace hM := hM.2 (nd_false c_9)
                refine HW.exit (thenQ_exit (thenQ_exit (blockQ_exit (thenQ_normal (?_)))))
                exact ⟨F_8, j_9, rfl, rfl, rfl, rfl, rfl, rfl, rfl, hK, hS, hF_cf_cmp, hM⟩
            · replace hM := hM.2 (of_decide_eq_false c_8)
              refine HA.past (k := 4) rfl rfl (by kernel_rfl) (by kernel_rfl) (past_by rfl rfl c_8) rfl ?_
              refine HA.past (k := 5) rfl rfl (by kernel_rfl) (by kernel_rfl) (past_by rfl rfl c_8) rfl ?_
              refine HA.past (k := 6) rfl rfl (by kernel_rfl) (by kernel_rfl) (past_by rfl rfl c_8) rfl ?_
              refine HA.past (k := 7) rfl rfl (by kernel_rfl) (by kernel_rfl) (past_by rfl rfl c_8) rfl ?_
              refine HA.past (k := 8) rfl rfl (by kernel_rfl) (by kernel_rfl) (past_by rfl rfl c_8) rfl ?_
              refine HA.past (k := 9) rfl rfl (by kernel_rfl) (by kernel_rfl) (past_by rfl rfl c_8) rfl ?_
              refine HA.past (k := 10) rfl rfl (by kernel_rfl) (by kernel_rfl) (past_by rfl rfl c_8) rfl ?_
              refine HA.past (k := 11) rfl rfl (by kernel_rfl) (by kernel_rfl) (past_by rfl rfl c_8) rfl ?_
              refine HA.past (k := 12) rfl rfl (by kernel_rfl) (by kernel_rfl) (past_by rfl rfl c_8) rfl ?_
              refine HA.one (k := 13) ⟨(hS.own 0 rfl), (Go.Wk.at_nil _ _)⟩ (by kernel_rfl) ?_
              refine HS.past rfl (past_by rfl rfl c_8) rfl ?_
              refine HA.past (k := 14) rfl rfl (by kernel_rfl) (by kernel_rfl) (past_by rfl rfl c_8) rfl ?_
              refine HA.past (k := 15) rfl rfl (by kernel_rfl) (by kernel_rfl) (past_by rfl rfl c_8) rfl ?_
              refine HA.val (k := 16) (v := .bool false) rfl rfl (by kernel_rfl) (by kernel_rfl) (want_none) rfl (fun _ c662 => q_pickK false rfl c_8 rfl) ?_
              refine HA.nil ⟨(hS.own 0 rfl), (Go.Wk.at_nil _ _)⟩ (by kernel_rfl) (thenQ_normal (?_))
              refine HW.condF rfl ?_
              refine HW.exit (thenQ_exit (thenQ_exit (blockQ_exit (thenQ_normal (?_)))))
              exact ⟨F_8, j_9, rfl, rfl, rfl, rfl, rfl, rfl, rfl, hK, hS, hF_cf_cmp, hM⟩
          · rintro f_9 h_19 ⟨F_9, j_7, e0, e1, e4, e10, e11, e12, e13, hK, hS, hF_cf_cmp, hM⟩
            unfold slices_partitionCmpFunc_string_j8 at hM
            refine HW.fr [(0, vdata), (1, .int .i64 a), (4, .func (.func g_cmp) fs_cmp cs_cmp), (10, .int .i64 0), (11, .bool false), (12, .int .i64 i_4), (13, .int .i64 j_7)] ⟨e0, e1, e4, e10, e11, e12, e13, trivial⟩ ?_
            refine HW.seq ?_
            refine HW.seq ?_
            refine HW.region ?_
            refine HO.val (v := .int .i64 i_4) (want_none) rfl (q_move rfl) ?_
            refine HO.val (v := .int .i64 j_7) (want_none) rfl (q_move rfl) ?_
            refine HO.val (v := .bool (decide (j_7 < i_4))) (want_none) rfl (q_gtr rfl rfl) ?_
            refine HO.nil (thenQ_normal (?_))
            refine HW.cond (decide (j_7 < i_4)) rfl (fun c_10 => ?_) (fun c_10 => ?_)
            · replace hM := hM.1 (of_decide_eq_true c_10)
              refine HW.exit (thenQ_exit (blockQ_pass rfl (thenQ_exit (blockQ_exit (thenQ_normal (?_))))))
              refine HW.seq ?_
              refine HW.regionA 16 mixed (fun h => True) [(13, fun h => (OwnIs h 0 9 1 encT vdata data_2))] (by kernel_rfl) ?_
              refine HA.val (k := 0) (v := vdata) rfl rfl (by kernel_rfl) (by kernel_rfl) (want_none) rfl (fun _ _ => q_move rfl) ?_
              refine HA.val (k := 1) (v := .int .i64 j_7) rfl rfl (by kernel_rfl) (by kernel_rfl) (want_none) rfl (fun _ _ => q_move rfl) ?_
              refine HA.val (k := 2) (v := vdata) rfl rfl (by kernel_rfl) (by kernel_rfl) (want_none) rfl (fun _ _ => q_move rfl) ?_
              refine HA.val (k := 3) (v := .int .i64 a) rfl rfl (by kernel_rfl) (by kernel_rfl) (want_none) rfl (fun _ _ => q_move rfl) ?_
              refine HA.val (k := 4) (v := vdata) rfl rfl (by kernel_rfl) (by kernel_rfl) (want_none) rfl (fun _ _ => q_move rfl) ?_
              refine HA.val (k := 5) (v := .int .i64 a) rfl rfl (by kernel_rfl) (by kernel_rfl) (want_none) rfl (fun _ _ => q_move rfl) ?_
              obtain ⟨ho_26, hM⟩ := hM
              refine Go.Wk.HA.valN (k := 6) (v := elemPtr 1 vdata (a).toNat) 0 13 (fun h => (OwnIs h 0 9 1 encT vdata data_2)) rfl rfl (by kernel_rfl) (by kernel_rfl) (want_none) rfl rfl (by kernel_rfl) (fun _ _ c561 => q_idx ts_36 c561.slice rfl rfl ho_26) ?_
              refine Go.Wk.HA.valN (k := 7) (v := .string (bs (gi data_2 a))) 0 13 (fun h => (OwnIs h 0 9 1 encT vdata data_2)) rfl rfl (by kernel_rfl) (by kernel_rfl) (want_none) rfl rfl (by kernel_rfl) (fun _ _ c561 => q_ldElem to_9 c561.slice rfl ho_26 rfl) ?_
              refine HA.val (k := 8) (v := vdata) rfl rfl (by kernel_rfl) (by kernel_rfl) (want_none) rfl (fun _ _ => q_move rfl) ?_
              refine HA.val (k := 9) (v := .int .i64 j_7) rfl rfl (by kernel_rfl) (by kernel_rfl) (want_none) rfl (fun _ _ => q_move rfl) ?_
              obtain ⟨ho_27, hM⟩ := hM
              refine Go.Wk.HA.valN (k := 10) (v := elemPtr 1 vdata (j_7).toNat) 0 13 (fun h => (OwnIs h 0 9 1 encT vdata data_2)) rfl rfl (by kernel_rfl) (by kernel_rfl) (want_none) rfl rfl (by kernel_rfl) (fun _ _ c561 => q_idx ts_36 c561.slice rfl rfl ho_27) ?_
              refine Go.Wk.HA.valN (k := 11) (v := .string (bs (gi data_2 j_7))) 0 13 (fun h => (OwnIs h 0 9 1 encT vdata data_2)) rfl rfl (by kernel_rfl) (by kernel_rfl) (want_none) rfl rfl (by kernel_rfl) (fun _ _ c561 => q_ldElem to_9 c561.slice rfl ho_27 rfl) ?_
              refine Go.Wk.HA.valN (k := 12) (v := elemPtr 1 vdata (j_7).toNat) 0 13 (fun h => (OwnIs h 0 9 1 encT vdata data_2)) rfl rfl (by kernel_rfl) (by kernel_rfl) (want_none) rfl rfl (by kernel_rfl) (fun _ _ c561 => q_idx ts_36 c561.slice rfl rfl ho_27) ?_
              refine HA.one (k := 13) ⟨trivial, (at_now (hS.own 0 rfl) (Go.Wk.at_nil _ _))⟩ (by kernel_rfl) ?_
              refine HS.sto rfl (want_none) rfl (st_storeField (a := (gi data_2 a)) (n := (j_7).toNat) (j := 0) hS (i := 0) rfl to_9 (elem_field _ _ _) (by omega) (by decide) rfl (by rw [← gi_lt ho_27.1 ho_27.2]; rfl) rfl rfl) ?_
              rintro h_20 ⟨hS, hk⟩
              replace hS : St F_9 (Ow.own 9 1 encT vdata (data_2.set (j_7).toNat (gi data_2 a)) :: fr) h_20 := hS
              replace hK := hK.trans hk
              replace hF_cf_cmp := hF_cf_cmp.kp hk
              refine Go.Wk.HA.re (fun h => True) [(15, fun h => (OwnIs h 0 9 1 encT vdata (data_2.set (j_7).toNat (gi data_2 a))))] (fun L_ h_ hL_ _ hs_ => ⟨trivial, (at_gone hL_ (by kernel_rfl) (Go.Wk.at_nil _ _))⟩) ?_
              obtain ⟨ho_28, hM⟩ := hM
              refine Go.Wk.HA.valN (k := 14) (v := elemPtr 1 vdata (a).toNat) 0 15 (fun h => (OwnIs h 0 9 1 encT vdata (data_2.set (j_7).toNat (gi data_2 a)))) rfl rfl (by kernel_rfl) (by kernel_rfl) (want_none) rfl rfl (by kernel_rfl) (fun _ _ c561 => q_idx ts_36 c561.slice rfl rfl ho_28) ?_
              refine HA.one (k := 15) ⟨trivial, (at_now (hS.own 0 rfl) (Go.Wk.at_nil _ _))⟩ (by kernel_rfl) ?_
              refine HS.sto rfl (want_none) rfl (st_storeField (a := (gi data_2 j_7)) (n := (a).toNat) (j := 0) hS (i := 0) rfl to_9 (elem_field _ _ _) (by omega) (by decide) rfl (by rw [← gi_lt ho_28.1 ho_28.2]; rfl) rfl rfl) ?_
              rintro h_21 ⟨hS, hk⟩
              replace hS : St F_9 (Ow.own 9 1 encT vdata ((data_2.set (j_7).toNat (gi data_2 a)).set (a).toNat (gi data_2 j_7)) :: fr) h_21 := hS
              replace hK := hK.trans hk
              replace hF_cf_cmp := hF_cf_cmp.kp hk
              refine HA.nil ⟨trivial, (at_done (by kernel_rfl) (Go.Wk.at_nil _ _))⟩ (by kernel_rfl) (thenQ_normal (?_))
              refine HW.seq ?_
              refine HW.region ?_
              refine HO.val (v := .int .i64 j_7) (want_none) rfl (q_move rfl) ?_
              refine HO.val (v := .int .i64 j_7) (want_none) rfl (q_assign rfl) ?_
              refine HO.val (v := .bool false) (want_none) rfl (q_assign rfl) ?_
              refine HO.nil (thenQ_normal (?_))
              refine HW.ret (?_)
              refine ⟨.inr rfl, .tuple #[.int .i64 j_7, .bool false], res2 rfl (rt rfl) (rt rfl), ?_⟩
              exact ⟨F_9, j_7, false, (data_2.set (j_7).toNat (gi data_2 a)).set (a).toNat (gi data_2 j_7), rfl, hK, hS, hF_cf_cmp, hM⟩
            · replace hM := hM.2 (of_decide_eq_false c_10)
              refine HW.skip (thenQ_normal (?_))
              refine HW.seq ?_
              refine HW.regionA 16 mixed (fun h => True) [(13, fun h => (OwnIs h 0 9 1 encT vdata data_2))] (by kernel_rfl) ?_
              refine HA.val (k := 0) (v := vdata) rfl rfl (by kernel_rfl) (by kernel_rfl) (want_none) rfl (fun _ _ => q_move rfl) ?_
              refine HA.val (k := 1) (v := .int .i64 i_4) rfl rfl (by kernel_rfl) (by kernel_rfl) (want_none) rfl (fun _ _ => q_move rfl) ?_
              refine HA.val (k := 2) (v := vdata) rfl rfl (by kernel_rfl) (by kernel_rfl) (want_none) rfl (fun _ _ => q_move rfl) ?_
              refine HA.val (k := 3) (v := .int .i64 j_7) rfl rfl (by kernel_rfl) (by kernel_rfl) (want_none) rfl (fun _ _ => q_move rfl) ?_
              refine HA.val (k := 4) (v := vdata) rfl rfl (by kernel_rfl) (by kernel_rfl) (want_none) rfl (fun _ _ => q_move rfl) ?_
              refine HA.val (k := 5) (v := .int .i64 j_7) rfl rfl (by kernel_rfl) (by kernel_rfl) (want_none) rfl (fun _ _ => q_move rfl) ?_
              obtain ⟨ho_29, hM⟩ := hM
              refine Go.Wk.HA.valN (k := 6) (v := elemPtr 1 vdata (j_7).toNat) 0 13 (fun h => (OwnIs h 0 9 1 encT vdata data_2)) rfl rfl (by kernel_rfl) (by kernel_rfl) (want_none) rfl rfl (by kernel_rfl) (fun _ _ c561 => q_idx ts_36 c561.slice rfl rfl ho_29) ?_
              refine Go.Wk.HA.valN (k := 7) (v := .string (bs (gi data_2 j_7))) 0 13 (fun h => (OwnIs h 0 9 1 encT vdata data_2)) rfl rfl (by kernel_rfl) (by kernel_rfl) (want_none) rfl rfl (by kernel_rfl) (fun _ _ c561 => q_ldElem to_9 c561.slice rfl ho_29 rfl) ?_
              refine HA.val (k := 8) (v := vdata) rfl rfl (by kernel_rfl) (by kernel_rfl) (want_none) rfl (fun _ _ => q_move rfl) ?_
              refine HA.val (k := 9) (v := .int .i64 i_4) rfl rfl (by kernel_rfl) (by kernel_rfl) (want_none) rfl (fun _ _ => q_move rfl) ?_
              obtain ⟨ho_30, hM⟩ := hM
              refine Go.Wk.HA.valN (k := 10) (v := elemPtr 1 vdata (i_4).toNat) 0 13 (fun h => (OwnIs h 0 9 1 encT vdata data_2)) rfl rfl (by kernel_rfl) (by kernel_rfl) (want_none) rfl rfl (by kernel_rfl) (fun _ _ c561 => q_idx ts_36 c561.slice rfl rfl ho_30) ?_
              refine Go.Wk.HA.valN (k := 11) (v := .string (bs (gi data_2 i_4))) 0 13 (fun h => (OwnIs h 0 9 1 encT vdata data_2)) rfl rfl (by kernel_rfl) (by kernel_rfl) (want_none) rfl rfl (by kernel_rfl) (fun _ _ c561 => q_ldElem to_9 c561.slice rfl ho_30 rfl) ?_
              refine Go.Wk.HA.valN (k := 12) (v := elemPtr 1 vdata (i_4).toNat) 0 13 (fun h => (OwnIs h 0 9 1 encT vdata data_2)) rfl rfl (by kernel_rfl) (by kernel_rfl) (want_none) rfl rfl (by kernel_rfl) (fun _ _ c561 => q_idx ts_36 c561.slice rfl rfl ho_30) ?_
              refine HA.one (k := 13) ⟨trivial, (at_now (hS.own 0 rfl) (Go.Wk.at_nil _ _))⟩ (by kernel_rfl) ?_
              refine HS.sto rfl (want_none) rfl (st_storeField (a := (gi data_2 j_7)) (n := (i_4).toNat) (j := 0) hS (i := 0) rfl to_9 (elem_field _ _ _) (by omega) (by decide) rfl (by rw [← gi_lt ho_30.1 ho_30.2]; rfl) rfl rfl) ?_
              rintro h_22 ⟨hS, hk⟩
              replace hS : St F_9 (Ow.own 9 1 encT vdata (data_2.set (i_4).toNat (gi data_2 j_7)) :: fr) h_22 := hS
              replace hK := hK.trans hk
              replace hF_cf_cmp := hF_cf_cmp.kp hk
              refine Go.Wk.HA.re (fun h => True) [(15, fun h => (OwnIs h 0 9 1 encT vdata (data_2.set (i_4).toNat (gi data_2 j_7))))] (fun L_ h_ hL_ _ hs_ => ⟨trivial, (at_gone hL_ (by kernel_rfl) (Go.Wk.at_nil _ _))⟩) ?_
              obtain ⟨ho_31, hM⟩ := hM
              refine Go.Wk.HA.valN (k := 14) (v := elemPtr 1 vdata (j_7).toNat) 0 15 (fun h => (OwnIs h 0 9 1 encT vdata (data_2.set (i_4).toNat (gi data_2 j_7)))) rfl rfl (by kernel_rfl) (by kernel_rfl) (want_none) rfl rfl (by kernel_rfl) (fun _ _ c561 => q_idx ts_36 c561.slice rfl rfl ho_31) ?_
              refine HA.one (k := 15) ⟨trivial, (at_now (hS.own 0 rfl) (Go.Wk.at_nil _ _))⟩ (by kernel_rfl) ?_
              refine HS.sto rfl (want_none) rfl (st_storeField (a := (gi data_2 i_4)) (n := (j_7).toNat) (j := 0) hS (i := 0) rfl to_9 (elem_field _ _ _) (by omega) (by decide) rfl (by rw [← gi_lt ho_31.1 ho_31.2]; rfl) rfl rfl) ?_
              rintro h_23 ⟨hS, hk⟩
              replace hS : St F_9 (Ow.own 9 1 encT vdata ((data_2.set (i_4).toNat (gi data_2 j_7)).set (j_7).toNat (gi data_2 i_4)) :: fr) h_23 := hS
              replace hK := hK.trans hk
              replace hF_cf_cmp := hF_cf_cmp.kp hk
              refine HA.nil ⟨trivial, (at_done (by kernel_rfl) (Go.Wk.at_nil _ _))⟩ (by kernel_rfl) (thenQ_normal (?_))
              refine HW.seq ?_
              refine HW.region ?_
              refine HO.val (v := .int .i64 i_4) (want_none) rfl (q_move rfl) ?_
              obtain ⟨ho_32, hM⟩ := hM
              refine HO.val (v := .int .i64 (i_4 + 1)) (want_none) rfl (q_addN _ rfl rfl rfl ho_32.1 ho_32.2) ?_
              refine HO.val (v := .int .i64 (i_4 + 1)) (want_none) rfl (q_assign rfl) ?_
              refine HO.nil (thenQ_normal (?_))
              refine HW.region ?_
              refine HO.val (v := .int .i64 j_7) (want_none) rfl (q_move rfl) ?_
              obtain ⟨ho_33, hM⟩ := hM
              refine HO.val (v := .int .i64 (j_7 - 1)) (want_none) rfl (q_subN _ rfl rfl rfl ho_33.1 ho_33.2) ?_
              refine HO.val (v := .int .i64 (j_7 - 1)) (want_none) rfl (q_assign rfl) ?_
              refine HO.nil (blockQ_normal (thenQ_normal (?_)))
              rw [hKe_3] at hM
              exact ⟨((data_2.set (i_4).toNat (gi data_2 j_7)).set (j_7).toNat (gi data_2 i_4), i_4 + 1, j_7 - 1), ⟨F_9, rfl, rfl, rfl, rfl, rfl, rfl, rfl, hK, hS, hF_cf_cmp, hM.1⟩, hM.2⟩

def slices_pdqsortCmpFunc_string_j5 (cf_cmp : Str → Str → Int) (R : (List Str) → Int → Int → Int → (Str → Str → Int) → ((List Str) → Prop) → Prop) (a_1 : Int) (b_1 : Int) (wasBalanced_1 : Bool) (wasPartitioned_1 : Bool) (K_1 : (List Str) → Int → Int → Int → Bool → Bool → Prop) (limit_2 : Int) (pivot_1 : Int) (data_9 : List Str) (b_3 : Bool) : Prop :=
  (b_3 = true → slices_partitionEqualCmpFunc_string_W data_9 a_1 b_1 pivot_1 cf_cmp (fun r_2 data_11 => K_1 data_11 r_2 b_1 limit_2 wasBalanced_1 wasPartitioned_1)) ∧ (b_3 = false → slices_partitionCmpFunc_string_W data_9 a_1 b_1 pivot_1 cf_cmp (fun r0_2 r1_2 data_12 => (I64 (r0_2 - a_1)) ∧ ((I64 (b_1 - r0_2)) ∧ ((I64 ((b_1 - a_1).tdiv 8)) ∧ (((r0_2 - a_1) < (b_1 - r0_2) → R data_12 a_1 r0_2 limit_2 cf_cmp (fun data_13 => (I64 (r0_2 + 1)) ∧ (K_1 data_13 (r0_2 + 1) b_1 limit_2 (decide (((b_1 - a_1).tdiv 8) ≤ (r0_2 - a_1))) r1_2))) ∧ (¬ ((r0_2 - a_1) < (b_1 - r0_2)) → (I64 (r0_2 + 1)) ∧ (R data_12 (r0_2 + 1) b_1 limit_2 cf_cmp (fun data_14 => K_1 data_14 a_1 r0_2 limit_2 (decide (((b_1 - a_1).tdiv 8) ≤ (b_1 - r0_2))) r1_2))))))))
def slices_pdqsortCmpFunc_string_j3 (cf_cmp : Str → Str → Int) (R : (List Str) → Int → Int → Int → (Str → Str → Int) → ((List Str) → Prop) → Prop) (a_1 : Int) (b_1 : Int) (wasBalanced_1 : Bool) (wasPartitioned_1 : Bool) (K_1 : (List Str) → Int → Int → Int → Bool → Bool → Prop) (limit_2 : Int) (pivot_1 : Int) (data_9 : List Str) : Prop :=
  (0 < a_1 → (I64 (a_1 - 1)) ∧ (((0 : Int) ≤ a_1 - 1 ∧ a_1 - 1 < (data_9.length : Int)) ∧ (((0 : Int) ≤ pivot_1 ∧ pivot_1 < (data_9.length : Int)) ∧ (slices_pdqsortCmpFunc_string_j5 cf_cmp R a_1 b_1 wasBalanced_1 wasPartitioned_1 K_1 limit_2 pivot_1 data_9 (!decide ((cf_cmp (gi data_9 (a_1 - 1)) (gi data_9 pivot_1)) < 0)))))) ∧ (¬ (0 < a_1) → slices_pdqsortCmpFunc_string_j5 cf_cmp R a_1 b_1 wasBalanced_1 wasPartitioned_1 K_1 limit_2 pivot_1 data_9 false)
def slices_pdqsortCmpFunc_string_j4 (cf_cmp : Str → Str → Int) (Q : (List Str) → Prop) (R : (List Str) → Int → Int → Int → (Str → Str → Int) → ((List Str) → Prop) → Prop) (a_1 : Int) (b_1 : Int) (wasBalanced_1 : Bool) (wasPartitioned_1 : Bool) (K_1 : (List Str) → Int → Int → Int → Bool → Bool → Prop) (limit_2 : Int) (data_7 : List Str) (pivot_1 : Int) (b_2 : Bool) : Prop :=
  (b_2 = true → slices_partialInsertionSortCmpFunc_string_W data_7 a_1 b_1 cf_cmp (fun r_1 data_10 => (r_1 = true → Q data_10) ∧ (r_1 = false → slices_pdqsortCmpFunc_string_j3 cf_cmp R a_1 b_1 wasBalanced_1 wasPartitioned_1 K_1 limit_2 pivot_1 data_10))) ∧ (b_2 = false → slices_pdqsortCmpFunc_string_j3 cf_cmp R a_1 b_1 wasBalanced_1 wasPartitioned_1 K_1 limit_2 pivot_1 data_7)
def slices_pdqsortCmpFunc_string_j2 (cf_cmp : Str → Str → Int) (Q : (List Str) → Prop) (R : (List Str) → Int → Int → Int → (Str → Str → Int) → ((List Str) → Prop) → Prop) (a_1 : Int) (b_1 : Int) (wasBalanced_1 : Bool) (wasPartitioned_1 : Bool) (K_1 : (List Str) → Int → Int → Int → Bool → Bool → Prop) (limit_2 : Int) (data_7 : List Str) (pivot_1 : Int) (hint_1 : Int) : Prop :=
  (wasBalanced_1 = true → (wasPartitioned_1 = true → slices_pdqsortCmpFunc_string_j4 cf_cmp Q R a_1 b_1 wasBalanced_1 wasPartitioned_1 K_1 limit_2 data_7 pivot_1 (decide (hint_1 = 1))) ∧ (wasPartitioned_1 = false → slices_pdqsortCmpFunc_string_j4 cf_cmp Q R a_1 b_1 wasBalanced_1 wasPartitioned_1 K_1 limit_2 data_7 pivot_1 false)) ∧ (wasBalanced_1 = false → slices_pdqsortCmpFunc_string_j4 cf_cmp Q R a_1 b_1 wasBalanced_1 wasPartitioned_1 K_1 limit_2 data_7 pivot_1 false)
def slices_pdqsortCmpFunc_string_j1 (cf_cmp : Str → Str → Int) (Q : (List Str) → Prop) (R : (List Str) → Int → Int → Int → (Str → Str → Int) → ((List Str) → Prop) → Prop) (a_1 : Int) (b_1 : Int) (wasBalanced_1 : Bool) (wasPartitioned_1 : Bool) (K_1 : (List Str) → Int → Int → Int → Bool → Bool → Prop) (data_5 : List Str) (limit_2 : Int) : Prop :=
  slices_choosePivotCmpFunc_string_W data_5 a_1 b_1 cf_cmp (fun r0_1 r1_1 => (r1_1 = 2 → slices_reverseRangeCmpFunc_string_W data_5 a_1 b_1 cf_cmp (fun data_8 => (I64 (b_1 - 1)) ∧ ((I64 (r0_1 - a_1)) ∧ ((I64 ((b_1 - 1) - (r0_1 - a_1))) ∧ (slices_pdqsortCmpFunc_string_j2 cf_cmp Q R a_1 b_1 wasBalanced_1 wasPartitioned_1 K_1 limit_2 data_8 ((b_1 - 1) - (r0_1 - a_1)) 1))))) ∧ (¬ (r1_1 = 2) → slices_pdqsortCmpFunc_string_j2 cf_cmp Q R a_1 b_1 wasBalanced_1 wasPartitioned_1 K_1 limit_2 data_5 r0_1 r1_1))
def slices_pdqsortCmpFunc_string_l1 (cf_cmp : Str → Str → Int) (Q : (List Str) → Prop) (R : (List Str) → Int → Int → Int → (Str → Str → Int) → ((List Str) → Prop) → Prop) (K_1 : (List Str) → Int → Int → Int → Bool → Bool → Prop) (data_2 : List Str) (a_1 : Int) (b_1 : Int) (limit_1 : Int) (wasBalanced_1 : Bool) (wasPartitioned_1 : Bool) : Prop :=
  (I64 (b_1 - a_1)) ∧ (((b_1 - a_1) ≤ 12 → slices_insertionSortCmpFunc_string_W data_2 a_1 b_1 cf_cmp (fun data_3 => Q data_3)) ∧ (¬ ((b_1 - a_1) ≤ 12) → (limit_1 = 0 → slices_heapSortCmpFunc_string_W data_2 a_1 b_1 cf_cmp (fun data_4 => Q data_4)) ∧ (¬ (limit_1 = 0) → ((!wasBalanced_1) = true → slices_breakPatternsCmpFunc_string_W data_2 a_1 b_1 cf_cmp (fun data_6 => (I64 (limit_1 - 1)) ∧ (slices_pdqsortCmpFunc_string_j1 cf_cmp Q R a_1 b_1 wasBalanced_1 wasPartitioned_1 K_1 data_6 (limit_1 - 1)))) ∧ ((!wasBalanced_1) = false → slices_pdqsortCmpFunc_string_j1 cf_cmp Q R a_1 b_1 wasBalanced_1 wasPartitioned_1 K_1 data_2 limit_1))))
def slices_pdqsortCmpFunc_string_B (R : (List Str) → Int → Int → Int → (Str → Str → Int) → ((List Str) → Prop) → Prop) (data : List Str) (a : Int) (b : Int) (limit : Int) (cf_cmp : Str → Str → Int) (Q : (List Str) → Prop) : Prop :=
  loopW (fun (K_1 : (List Str × Int × Int × Int × Bool × Bool) → Prop) (s : List Str × Int × Int × Int × Bool × Bool) => slices_pdqsortCmpFunc_string_l1 cf_cmp Q R (fun data_2 a_1 b_1 limit_1 wasBalanced_1 wasPartitioned_1 => K_1 (data_2, a_1, b_1, limit_1, wasBalanced_1, wasPartitioned_1)) s.1 s.2.1 s.2.2.1 s.2.2.2.1 s.2.2.2.2.1 s.2.2.2.2.2) (data, a, b, limit, true, true)
def slices_pdqsortCmpFunc_string_Wn : Nat → (List Str) → Int → Int → Int → (Str → Str → Int) → ((List Str) → Prop) → Prop
  | 0 => fun _ _ _ _ _ _ => False
  | n + 1 => slices_pdqsortCmpFunc_string_B (slices_pdqsortCmpFunc_string_Wn n)
def slices_pdqsortCmpFunc_string_W (data : List Str) (a : Int) (b : Int) (limit : Int) (cf_cmp : Str → Str → Int) (Q : (List Str) → Prop) : Prop :=
  ∃ n, slices_pdqsortCmpFunc_string_Wn n data a b limit cf_cmp Q
set_option maxHeartbeats 40000000 in
set_option maxRecDepth 100000 in
theorem slices_pdqsortCmpFunc_string_walkn : ∀ (n_ : Nat) {F : Fz} {fr : List Ow} {h0 : Heap} (data : List Str) (a : Int) (b : Int) (limit : Int) (cf_cmp : Str → Str → Int) (vdata : Value) (g_cmp : Nat) (fs_cmp : Array Value) (cs_cmp : Array Value) (hS : St F (Ow.own 9 1 encT vdata data :: fr) h0) (hF_cf_cmp : FnP Try.prog F h0 g_cmp fs_cmp cs_cmp (fun x : Str × Str => [.string (bs x.1), .string (bs x.2)]) (fun x => .int .i64 (cf_cmp x.1 x.2))) {Q : (List Str) → Prop} (hM : slices_pdqsortCmpFunc_string_Wn n_ data a b limit cf_cmp Q),
    HC Try.prog 73 #[vdata, .int .i64 a, .int .i64 b, .int .i64 limit, .func (.func g_cmp) fs_cmp cs_cmp] h0 fun u h' => ∃ (F' : Fz) (data_1 : List Str), u = .tuple #[] ∧ Kp F h0 F' h' ∧ St F' (Ow.own 9 1 encT vdata data_1 :: fr) h' ∧ (FnP Try.prog F' h' g_cmp fs_cmp cs_cmp (fun x : Str × Str => [.string (bs x.1), .string (bs x.2)]) (fun x => .int .i64 (cf_cmp x.1 x.2))) ∧ Q data_1 := by
  intro n_
  induction n_ with
  | zero => intro F fr h0 data a b limit cf_cmp vdata g_cmp fs_cmp cs_cmp hS hF_cf_cmp Q hM; exact hM.elim
  | succ n_ ih => ?_
  intro F fr h0 data a b limit cf_cmp vdata g_cmp fs_cmp cs_cmp hS hF_cf_cmp Q hM
  replace hM : slices_pdqsortCmpFunc_string_B (slices_pdqsortCmpFunc_string_Wn n_) data a b limit cf_cmp Q := hM
  unfold slices_pdqsortCmpFunc_string_B at hM
  generalize slices_pdqsortCmpFunc_string_Wn n_ = R at ih hM
  have hK := Kp.refl F h0
  refine HC.of_HW (n := 148) Try.func73 rfl rfl (Nat.le_of_ble_eq_true rfl) ?_
  refine HW.seq ?_
  refine HW.region ?_
  refine HO.val (v := .bool true) (want_none) rfl (q_assign rfl) ?_
  refine HO.nil (thenQ_normal (?_))
  refine HW.seq ?_
  refine HW.region ?_
  refine HO.val (v := .bool true) (want_none) rfl (q_assign rfl) ?_
  refine HO.nil (thenQ_normal (?_))
  refine HW.block ?_
  obtain ⟨I_1, m_1, hI_1, hR_1⟩ := hM
  refine HW.loop (S := List Str × Int × Int × Int × Bool × Bool) (fun s f h => match s with | (data_2, a_1, b_1, limit_1, wasBalanced_1, wasPartitioned_1) => ∃ (F' : Fz), f 0 = vdata ∧ f 1 = .int .i64 a_1 ∧ f 2 = .int .i64 b_1 ∧ f 3 = .int .i64 limit_1 ∧ f 4 = .func (.func g_cmp) fs_cmp cs_cmp ∧ f 10 = .bool wasBalanced_1 ∧ f 11 = .bool wasPartitioned_1 ∧ Kp F h0 F' h ∧ St F' (Ow.own 9 1 encT vdata data_2 :: fr) h ∧ (FnP Try.prog F' h g_cmp fs_cmp cs_cmp (fun x : Str × Str => [.string (bs x.1), .string (bs x.2)]) (fun x => .int .i64 (cf_cmp x.1 x.2))) ∧ I_1 (data_2, a_1, b_1, limit_1, wasBalanced_1, wasPartitioned_1)) m_1 (data, a, b, limit, true, true) ⟨F, rfl, rfl, rfl, rfl, rfl, rfl, rfl, hK, hS, hF_cf_cmp, hI_1⟩ ?_
  rintro ⟨data_2, a_1, b_1, limit_1, wasBalanced_1, wasPartitioned_1⟩ f_1 h_1 ⟨F_1, e0, e1, e2, e3, e4, e10, e11, hK, hS, hF_cf_cmp, hI0⟩
  obtain ⟨K_1, hKe_1⟩ : ∃ K : (List Str) → Int → Int → Int → Bool → Bool → Prop, K = fun data_2' a_1' b_1' limit_1' wasBalanced_1' wasPartitioned_1' => I_1 (data_2', a_1', b_1', limit_1', wasBalanced_1', wasPartitioned_1') ∧ m_1 (data_2', a_1', b_1', limit_1', wasBalanced_1', wasPartitioned_1') < m_1 (data_2, a_1, b_1, limit_1, wasBalanced_1, wasPartitioned_1) := ⟨_, rfl⟩
  have hM : slices_pdqsortCmpFunc_string_l1 cf_cmp Q R K_1 data_2 a_1 b_1 limit_1 wasBalanced_1 wasPartitioned_1 := by rw [hKe_1]; exact hR_1 (data_2, a_1, b_1, limit_1, wasBalanced_1, wasPartitioned_1) hI0
  unfold slices_pdqsortCmpFunc_string_l1 at hM
  refine HW.fr [(0, vdata), (1, .int .i64 a_1), (2, .int .i64 b_1), (3, .int .i64 limit_1), (4, .func (.func g_cmp) fs_cmp cs_cmp), (10, .bool wasBalanced_1), (11, .bool wasPartitioned_1)] ⟨e0, e1, e2, e3, e4, e10, e11, trivial⟩ ?_
  refine HW.block ?_
  refine HW.seq ?_
  refine HW.region ?_
  refine HO.val (v := .int .i64 b_1) (want_none) rfl (q_move rfl) ?_
  refine HO.val (v := .int .i64 a_1) (want_none) rfl (q_move rfl) ?_
  obtain ⟨ho_1, hM⟩ := hM
  refine HO.val (v := .int .i64 (b_1 - a_1)) (want_none) rfl (q_subN _ rfl rfl rfl ho_1.1 ho_1.2) ?_
  refine HO.val (v := .int .i64 (b_1 - a_1)) (want_none) rfl (q_assign rfl) ?_
  refine HO.nil (thenQ_normal (?_))
  refine HW.seq ?_
  refine HW.seq ?_
  refine HW.region ?_
  refine HO.val (v := .int .i64 (b_1 - a_1)) (want_none) rfl (q_move rfl) ?_
  refine HO.val (v := .bool (decide ((b_1 - a_1) ≤ 12))) (want_none) rfl (q_leq rfl rfl) ?_
  refine HO.nil (thenQ_normal (?_))
  refine HW.cond (decide ((b_1 - a_1) ≤ 12)) rfl (fun c_1 => ?_) (fun c_1 => ?_)
  · replace hM := hM.1 (of_decide_eq_true c_1)
    refine HW.seq ?_
    refine HW.region ?_
    refine HO.val (v := vdata) (want_none) rfl (q_move rfl) ?_
    refine HO.val (v := .int .i64 a_1) (want_none) rfl (q_move rfl) ?_
    refine HO.val (v := .int .i64 b_1) (want_none) rfl (q_move rfl) ?_
    refine HO.val (v := .func (.func g_cmp) fs_cmp cs_cmp) (want_none) rfl (q_move rfl) ?_
    refine HO.call (want_none) rfl (ec en_80 rfl rfl) (slices_insertionSortCmpFunc_string_walk (fr := (fr)) data_2 a_1 b_1 cf_cmp vdata g_cmp fs_cmp cs_cmp hS hF_cf_cmp hM) ?_
    rintro _ h_2 ⟨F_2, data_3, rfl, hk, hS, _, hM⟩
    replace hK := hK.trans hk
    replace hF_cf_cmp := hF_cf_cmp.kp hk
    refine HO.nil (thenQ_normal (?_))
    refine HW.ret (thenQ_ret (blockQ_ret (thenQ_ret (blockQ_ret (?_)))))
    refine ⟨.inr rfl, .tuple #[], res0 rfl , ?_⟩
    exact ⟨F_2, data_3, rfl, hK, hS, hF_cf_cmp, hM⟩
  · replace hM := hM.2 (of_decide_eq_false c_1)
    refine HW.skip (thenQ_normal (?_))
    refine HW.seq ?_
    refine HW.seq ?_
    refine HW.region ?_
    refine HO.val (v := .int .i64 limit_1) (want_none) rfl (q_move rfl) ?_
    refine HO.val (v := .bool (decide (limit_1 = 0))) (want_none) rfl (q_eql rfl rfl) ?_
    refine HO.nil (thenQ_normal (?_))
    refine HW.cond (decide (limit_1 = 0)) rfl (fun c_2 => ?_) (fun c_2 => ?_)
    · replace hM := hM.1 (of_decide_eq_true c_2)
      refine HW.seq ?_
      refine HW.region ?_
      refine HO.val (v := vdata) (want_none) rfl (q_move rfl) ?_
      refine HO.val (v := .int .i64 a_1) (want_none) rfl (q_move rfl) ?_
      refine HO.val (v := .int .i64 b_1) (want_none) rfl (q_move rfl) ?_
      refine HO.val (v := .func (.func g_cmp) fs_cmp cs_cmp) (want_none) rfl (q_move rfl) ?_
      refine HO.call (want_none) rfl (ec en_81 rfl rfl) (slices_heapSortCmpFunc_string_walk (fr := (fr)) data_2 a_1 b_1 cf_cmp vdata g_cmp fs_cmp cs_cmp hS hF_cf_cmp hM) ?_
      rintro _ h_3 ⟨F_3, data_4, rfl, hk, hS, _, hM⟩
      replace hK := hK.trans hk
      replace hF_cf_cmp := hF_cf_cmp.kp hk
      refine HO.nil (thenQ_normal (?_))
      refine HW.ret (thenQ_ret (blockQ_ret (thenQ_ret (blockQ_ret (?_)))))
      refine ⟨.inr rfl, .tuple #[], res0 rfl , ?_⟩
      exact ⟨F_3, data_4, rfl, hK, hS, hF_cf_cmp, hM⟩
    · replace hM := hM.2 (of_decide_eq_false c_2)
      refine HW.skip (thenQ_normal (?_))
      refine HW.seq_mid (fun f h => ∃ (F' : Fz) (data_5 : List Str) (limit_2 : Int), f 0 = vdata ∧ f 1 = .int .i64 a_1 ∧ f 2 = .int .i64 b_1 ∧ f 3 = .int .i64 limit_2 ∧ f 4 = .func (.func g_cmp) fs_cmp cs_cmp ∧ f 10 = .bool wasBalanced_1 ∧ f 11 = .bool wasPartitioned_1 ∧ f 12 = .int .i64 (b_1 - a_1) ∧ Kp F h0 F' h ∧ St F' (Ow.own 9 1 encT vdata data_5 :: fr) h ∧ (FnP Try.prog F' h g_cmp fs_cmp cs_cmp (fun x : Str × Str => [.string (bs x.1), .string (bs x.2)]) (fun x => .int .i64 (cf_cmp x.1 x.2))) ∧ slices_pdqsortCmpFunc_string_j1 cf_cmp Q R a_1 b_1 wasBalanced_1 wasPartitioned_1 K_1 data_5 limit_2) ?_ ?_
      · refine HW.seq ?_
        refine HW.region ?_
        refine HO.val (v := .bool wasBalanced_1) (want_none) rfl (q_move rfl) ?_
        refine HO.val (v := .bool (!wasBalanced_1)) (want_none) rfl (q_not rfl) ?_
        refine HO.nil (thenQ_normal (?_))
        refine HW.cond (!wasBalanced_1) rfl (fun c_3 => ?_) (fun c_3 => ?_)
        · replace hM := hM.1 c_3
          refine HW.seq ?_
          refine HW.region ?_
          refine HO.val (v := vdata) (want_none) rfl (q_move rfl) ?_
          refine HO.val (v := .int .i64 a_1) (want_none) rfl (q_move rfl) ?_
          refine HO.val (v := .int .i64 b_1) (want_none) rfl (q_move rfl) ?_
          refine HO.val (v := .func (.func g_cmp) fs_cmp cs_cmp) (want_none) rfl (q_move rfl) ?_
          refine HO.call (want_none) rfl (ec en_82 rfl rfl) (slices_breakPatternsCmpFunc_string_walk (fr := (fr)) data_2 a_1 b_1 cf_cmp vdata g_cmp fs_cmp cs_cmp hS hF_cf_cmp hM) ?_
          rintro _ h_4 ⟨F_4, data_6, rfl, hk, hS, _, hM⟩
          replace hK := hK.trans hk
          replace hF_cf_cmp := hF_cf_cmp.kp hk
          refine HO.nil (thenQ_normal (?_))
          refine HW.region ?_
          refine HO.val (v := .int .i64 limit_1) (want_none) rfl (q_move rfl) ?_
          obtain ⟨ho_2, hM⟩ := hM
          refine HO.val (v := .int .i64 (limit_1 - 1)) (want_none) rfl (q_subN _ rfl rfl rfl ho_2.1 ho_2.2) ?_
          refine HO.val (v := .int .i64 (limit_1 - 1)) (want_none) rfl (q_assign rfl) ?_
          refine HO.nil (thenQ_normal (?_))
          exact ⟨F_4, data_6, limit_1 - 1, rfl, rfl, rfl, rfl, rfl, rfl, rfl, rfl, hK, hS, hF_cf_cmp, hM⟩
        · replace hM := hM.2 c_3
          refine HW.skip (thenQ_normal (?_))
          exact ⟨F_1, data_2, limit_1, rfl, rfl, rfl, rfl, rfl, rfl, rfl, rfl, hK, hS, hF_cf_cmp, hM⟩
      · rintro f_2 h_5 ⟨F_5, data_5, limit_2, e0, e1, e2, e3, e4, e10, e11, e12, hK, hS, hF_cf_cmp, hM⟩
        unfold slices_pdqsortCmpFunc_string_j1 at hM
        refine HW.fr [(0, vdata), (1, .int .i64 a_1), (2, .int .i64 b_1), (3, .int .i64 limit_2), (4, .func (.func g_cmp) fs_cmp cs_cmp), (10, .bool wasBalanced_1), (11, .bool wasPartitioned_1), (12, .int .i64 (b_1 - a_1))] ⟨e0, e1, e2, e3, e4, e10, e11, e12, trivial⟩ ?_
        refine HW.seq ?_
        refine HW.region ?_
        refine HO.val (v := vdata) (want_none) rfl (q_move rfl) ?_
        refine HO.val (v := .int .i64 a_1) (want_none) rfl (q_move rfl) ?_
        refine HO.val (v := .int .i64 b_1) (want_none) rfl (q_move rfl) ?_
        refine HO.val (v := .func (.func g_cmp) fs_cmp cs_cmp) (want_none) rfl (q_move rfl) ?_
        have hZ_1 := hS
        have hkz_1 := (hS.freeze).2
        replace hS := hS.freeze.1
        have hL_1 : SliceF (fun b => F_5 b ∨ (Ow.own 9 1 encT vdata data_5).foot b) h_5 1 encT vdata data_5 := ⟨(hZ_1.own 0 rfl).slice, fun _ b hb => .inr hb⟩
        refine HO.call (want_none) rfl (ec en_83 rfl rfl) (slices_choosePivotCmpFunc_string_walk (fr := (fr)) data_5 a_1 b_1 cf_cmp vdata g_cmp fs_cmp cs_cmp hS hL_1 (hF_cf_cmp.kp hkz_1) hM) ?_
        rintro _ h_6 ⟨F_6, r0_1, r1_1, rfl, hk, hS, _, _, hM⟩
        obtain ⟨hS, hk⟩ := hZ_1.back hk hS
        generalize (fun b => F_6 b ∧ ¬ (Ow.own 9 1 encT vdata data_5).foot b) = F_7 at hS hk
        replace hK := hK.trans hk
        replace hF_cf_cmp := hF_cf_cmp.kp hk
        refine HO.val (v := .tuple #[.int .i64 r0_1, .int .i64 r1_1]) (want_none) rfl (q_move rfl) ?_
        refine HO.val (v := .int .i64 r0_1) (want_none) rfl (q_extract rfl rfl) ?_
        refine HO.val (v := .int .i64 r1_1) (want_none) rfl (q_extract rfl rfl) ?_
        refine HO.val (v := .int .i64 r0_1) (want_none) rfl (q_assign rfl) ?_
        refine HO.val (v := .int .i64 r1_1) (want_none) rfl (q_assign rfl) ?_
        refine HO.nil (thenQ_normal (?_))
        refine HW.seq_mid (fun f h => ∃ (F' : Fz) (data_7 : List Str) (pivot_1 : Int) (hint_1 : Int), f 0 = vdata ∧ f 1 = .int .i64 a_1 ∧ f 2 = .int .i64 b_1 ∧ f 3 = .int .i64 limit_2 ∧ f 4 = .func (.func g_cmp) fs_cmp cs_cmp ∧ f 10 = .bool wasBalanced_1 ∧ f 11 = .bool wasPartitioned_1 ∧ f 12 = .int .i64 (b_1 - a_1) ∧ f 13 = .int .i64 pivot_1 ∧ f 14 = .int .i64 hint_1 ∧ Kp F h0 F' h ∧ St F' (Ow.own 9 1 encT vdata data_7 :: fr) h ∧ (FnP Try.prog F' h g_cmp fs_cmp cs_cmp (fun x : Str × Str => [.string (bs x.1), .string (bs x.2)]) (fun x => .int .i64 (cf_cmp x.1 x.2))) ∧ slices_pdqsortCmpFunc_string_j2 cf_cmp Q R a_1 b_1 wasBalanced_1 wasPartitioned_1 K_1 limit_2 data_7 pivot_1 hint_1) ?_ ?_
        · refine HW.seq ?_
          refine HW.region ?_
          refine HO.val (v := .int .i64 r1_1) (want_none) rfl (q_move rfl) ?_
          refine HO.val (v := .bool (decide (r1_1 = 2))) (want_none) rfl (q_eql rfl rfl) ?_
          refine HO.nil (thenQ_normal (?_))
          refine HW.cond (decide (r1_1 = 2)) rfl (fun c_4 => ?_) (fun c_4 => ?_)
          · replace hM := hM.1 (of_decide_eq_true c_4)
            refine HW.seq ?_
            refine HW.region ?_
            refine HO.val (v := vdata) (want_none) rfl (q_move rfl) ?_
            refine HO.val (v := .int .i64 a_1) (want_none) rfl (q_move rfl) ?_
            refine HO.val (v := .int .i64 b_1) (want_none) rfl (q_move rfl) ?_
            refine HO.val (v := .func (.func g_cmp) fs_cmp cs_cmp) (want_none) rfl (q_move rfl) ?_
            refine HO.call (want_none) rfl (ec en_84 rfl rfl) (slices_reverseRangeCmpFunc_string_walk (fr := (fr)) data_5 a_1 b_1 cf_cmp vdata g_cmp fs_cmp cs_cmp hS hF_cf_cmp hM) ?_
            rintro _ h_7 ⟨F_8, data_8, rfl, hk, hS, _, hM⟩
            replace hK := hK.trans hk
            replace hF_cf_cmp := hF_cf_cmp.kp hk
            refine HO.nil (thenQ_normal (?_))
            refine HW.seq ?_
            refine HW.region ?_
            refine HO.val (v := .int .i64 b_1) (want_none) rfl (q_move rfl) ?_
            obtain ⟨ho_3, hM⟩ := hM
            refine HO.val (v := .int .i64 (b_1 - 1)) (want_none) rfl (q_subN _ rfl rfl rfl ho_3.1 ho_3.2) ?_
            refine HO.val (v := .int .i64 r0_1) (want_none) rfl (q_move rfl) ?_
            refine HO.val (v := .int .i64 a_1) (want_none) rfl (q_move rfl) ?_
            obtain ⟨ho_4, hM⟩ := hM
            refine HO.val (v := .int .i64 (r0_1 - a_1)) (want_none) rfl (q_subN _ rfl rfl rfl ho_4.1 ho_4.2) ?_
            obtain ⟨ho_5, hM⟩ := hM
            refine HO.val (v := .int .i64 ((b_1 - 1) - (r0_1 - a_1))) (want_none) rfl (q_subN _ rfl rfl rfl ho_5.1 ho_5.2) ?_
            refine HO.val (v := .int .i64 ((b_1 - 1) - (r0_1 - a_1))) (want_none) rfl (q_assign rfl) ?_
            refine HO.nil (thenQ_normal (?_))
            refine HW.region ?_
            refine HO.val (v := .int .i64 1) (want_none) rfl (q_assign rfl) ?_
            refine HO.nil (thenQ_normal (?_))
            exact ⟨F_8, data_8, (b_1 - 1) - (r0_1 - a_1), 1, rfl, rfl, rfl, rfl, rfl, rfl, rfl, rfl, rfl, rfl, hK, hS, hF_cf_cmp, hM⟩
          · replace hM := hM.2 (of_decide_eq_false c_4)
            refine HW.skip (thenQ_normal (?_))
            exact ⟨F_7, data_5, r0_1, r1_1, rfl, rfl, rfl, rfl, rfl, rfl, rfl, rfl, rfl, rfl, hK, hS, hF_cf_cmp, hM⟩
        · rintro f_3 h_8 ⟨F_9, data_7, pivot_1, hint_1, e0, e1, e2, e3, e4, e10, e11, e12, e13, e14, hK, hS, hF_cf_cmp, hM⟩
          unfold slices_pdqsortCmpFunc_string_j2 at hM
          refine HW.fr [(0, vdata), (1, .int .i64 a_1), (2, .int .i64 b_1), (3, .int .i64 limit_2), (4, .func (.func g_cmp) fs_cmp cs_cmp), (10, .bool wasBalanced_1), (11, .bool wasPartitioned_1), (12, .int .i64 (b_1 - a_1)), (13, .int .i64 pivot_1), (14, .int .i64 hint_1)] ⟨e0, e1, e2, e3, e4, e10, e11, e12, e13, e14, trivial⟩ ?_
          refine HW.seq_mid (fun f h => ∃ (F' : Fz) (data_9 : List Str), f 0 = vdata ∧ f 1 = .int .i64 a_1 ∧ f 2 = .int .i64 b_1 ∧ f 3 = .int .i64 limit_2 ∧ f 4 = .func (.func g_cmp) fs_cmp cs_cmp ∧ f 10 = .bool wasBalanced_1 ∧ f 11 = .bool wasPartitioned_1 ∧ f 12 = .int .i64 (b_1 - a_1) ∧ f 13 = .int .i64 pivot_1 ∧ Kp F h0 F' h ∧ St F' (Ow.own 9 1 encT vdata data_9 :: fr) h ∧ (FnP Try.prog F' h g_cmp fs_cmp cs_cmp (fun x : Str × Str => [.string (bs x.1), .string (bs x.2)]) (fun x => .int .i64 (cf_cmp x.1 x.2))) ∧ slices_pdqsortCmpFunc_string_j3 cf_cmp R a_1 b_1 wasBalanced_1 wasPartitioned_1 K_1 limit_2 pivot_1 data_9) ?_ ?_
          · refine HW.seq_mid (fun f h => ∃ (F' : Fz) (b_2 : Bool), f 0 = vdata ∧ f 1 = .int .i64 a_1 ∧ f 2 = .int .i64 b_1 ∧ f 3 = .int .i64 limit_2 ∧ f 4 = .func (.func g_cmp) fs_cmp cs_cmp ∧ f 10 = .bool wasBalanced_1 ∧ f 11 = .bool wasPartitioned_1 ∧ f 12 = .int .i64 (b_1 - a_1) ∧ f 13 = .int .i64 pivot_1 ∧ f 75 = .bool b_2 ∧ Kp F h0 F' h ∧ St F' (Ow.own 9 1 encT vdata data_7 :: fr) h ∧ (FnP Try.prog F' h g_cmp fs_cmp cs_cmp (fun x : Str × Str => [.string (bs x.1), .string (bs x.2)]) (fun x => .int .i64 (cf_cmp x.1 x.2))) ∧ slices_pdqsortCmpFunc_string_j4 cf_cmp Q R a_1 b_1 wasBalanced_1 wasPartitioned_1 K_1 limit_2 data_7 pivot_1 b_2) ?_ ?_
            · refine HW.region ?_
              refine HO.val (v := .bool wasBalanced_1) (want_none) rfl (q_move rfl) ?_
              refine HO.val (v := .bool wasBalanced_1) (want_none) rfl (q_move rfl) ?_
              rcases Bool.eq_false_or_eq_true wasBalanced_1 with c_5 | c_5
              · replace hM := hM.1 c_5
                refine HO.val (v := .bool wasPartitioned_1) (want_by rfl rfl c_5) rfl (q_move rfl) ?_
                refine HO.val (v := .bool wasPartitioned_1) (want_none) rfl (q_pickK true rfl c_5 rfl) ?_
                refine HO.val (v := .bool wasPartitioned_1) (want_none) rfl (q_move rfl) ?_
                rcases Bool.eq_false_or_eq_true wasPartitioned_1 with c_6 | c_6
                · replace hM := hM.1 c_6
                  refine HO.val (v := .int .i64 hint_1) (want_by rfl rfl c_6) rfl (q_move rfl) ?_
                  refine HO.val (v := .bool (decide (hint_1 = 1))) (want_by rfl rfl c_6) rfl (q_eql rfl rfl) ?_
                  refine HO.val (v := .bool (decide (hint_1 = 1))) (want_none) rfl (q_pickK true rfl c_6 rfl) ?_
                  refine HO.nil (thenQ_normal (?_))
                  exact ⟨F_9, decide (hint_1 = 1), rfl, rfl, rfl, rfl, rfl, rfl, rfl, rfl, rfl, rfl, hK, hS, hF_cf_cmp, hM⟩
                · replace hM := hM.2 c_6
                  refine HO.past (past_by rfl rfl c_6) rfl ?_
                  refine HO.past (past_by rfl rfl c_6) rfl ?_
                  refine HO.val (v := .bool false) (want_none) rfl (q_pickK false rfl c_6 rfl) ?_
                  refine HO.nil (thenQ_normal (?_))
                  exact ⟨F_9, false, rfl, rfl, rfl, rfl, rfl, rfl, rfl, rfl, rfl, rfl, hK, hS, hF_cf_cmp, hM⟩
              · replace hM := hM.2 c_5
                refine HO.past (past_by rfl rfl c_5) rfl ?_
                refine HO.val (v := .bool false) (want_none) rfl (q_pickK false rfl c_5 rfl) ?_
                refine HO.val (v := .bool false) (want_none) rfl (q_move rfl) ?_
                refine HO.past (past_some rfl rfl) rfl ?_
                refine HO.past (past_some rfl rfl) rfl ?_
                refine HO.val (v := .bool false) (want_none) rfl (q_pick rfl rfl) ?_
                refine HO.nil (thenQ_normal (?_))
                exact ⟨F_9, false, rfl, rfl, rfl, rfl, rfl, rfl, rfl, rfl, rfl, rfl, hK, hS, hF_cf_cmp, hM⟩
            · rintro f_4 h_9 ⟨F_10, b_2, e0, e1, e2, e3, e4, e10, e11, e12, e13, e75, hK, hS, hF_cf_cmp, hM⟩
              unfold slices_pdqsortCmpFunc_string_j4 at hM
              refine HW.fr [(0, vdata), (1, .int .i64 a_1), (2, .int .i64 b_1), (3, .int .i64 limit_2), (4, .func (.func g_cmp) fs_cmp cs_cmp), (10, .bool wasBalanced_1), (11, .bool wasPartitioned_1), (12, .int .i64 (b_1 - a_1)), (13, .int .i64 pivot_1), (75, .bool b_2)] ⟨e0, e1, e2, e3, e4, e10, e11, e12, e13, e75, trivial⟩ ?_
              refine HW.cond b_2 rfl (fun c_7 => ?_) (fun c_7 => ?_)
              · replace hM := hM.1 c_7
                refine HW.seq ?_
                refine HW.region ?_
                refine HO.val (v := vdata) (want_none) rfl (q_move rfl) ?_
                refine HO.val (v := .int .i64 a_1) (want_none) rfl (q_move rfl) ?_
                refine HO.val (v := .int .i64 b_1) (want_none) rfl (q_move rfl) ?_
                refine HO.val (v := .func (.func g_cmp) fs_cmp cs_cmp) (want_none) rfl (q_move rfl) ?_
                refine HO.call (want_none) rfl (ec en_85 rfl rfl) (slices_partialInsertionSortCmpFunc_string_walk (fr := (fr)) data_7 a_1 b_1 cf_cmp vdata g_cmp fs_cmp cs_cmp hS hF_cf_cmp hM) ?_
                rintro _ h_10 ⟨F_11, r_1, data_10, rfl, hk, hS, _, hM⟩
                replace hK := hK.trans hk
                replace hF_cf_cmp := hF_cf_cmp.kp hk
                refine HO.nil (thenQ_normal (?_))
                refine HW.cond r_1 rfl (fun c_8 => ?_) (fun c_8 => ?_)
                · replace hM := hM.1 c_8
                  refine HW.ret (thenQ_ret (blockQ_ret (thenQ_ret (blockQ_ret (?_)))))
                  refine ⟨.inr rfl, .tuple #[], res0 rfl , ?_⟩
                  exact ⟨F_11, data_10, rfl, hK, hS, hF_cf_cmp, hM⟩
                · replace hM := hM.2 c_8
                  refine HW.skip (thenQ_normal (?_))
                  exact ⟨F_11, data_10, rfl, rfl, rfl, rfl, rfl, rfl, rfl, rfl, rfl, hK, hS, hF_cf_cmp, hM⟩
              · replace hM := hM.2 c_7
                refine HW.skip (thenQ_normal (?_))
                exact ⟨F_10, data_7, rfl, rfl, rfl, rfl, rfl, rfl, rfl, rfl, rfl, hK, hS, hF_cf_cmp, hM⟩
          · rintro f_5 h_11 ⟨F_12, data_9, e0, e1, e2, e3, e4, e10, e11, e12, e13, hK, hS, hF_cf_cmp, hM⟩
            unfold slices_pdqsortCmpFunc_string_j3 at hM
            refine HW.fr [(0, vdata), (1, .int .i64 a_1), (2, .int .i64 b_1), (3, .int .i64 limit_2), (4, .func (.func g_cmp) fs_cmp cs_cmp), (10, .bool wasBalanced_1), (11, .bool wasPartitioned_1), (12, .int .i64 (b_1 - a_1)), (13, .int .i64 pivot_1)] ⟨e0, e1, e2, e3, e4, e10, e11, e12, e13, trivial⟩ ?_
            refine HW.seq ?_
            refine HW.seq_mid (fun f h => ∃ (F' : Fz) (b_3 : Bool), f 0 = vdata ∧ f 1 = .int .i64 a_1 ∧ f 2 = .int .i64 b_1 ∧ f 3 = .int .i64 limit_2 ∧ f 4 = .func (.func g_cmp) fs_cmp cs_cmp ∧ f 10 = .bool wasBalanced_1 ∧ f 11 = .bool wasPartitioned_1 ∧ f 12 = .int .i64 (b_1 - a_1) ∧ f 13 = .int .i64 pivot_1 ∧ f 97 = .bool b_3 ∧ Kp F h0 F' h ∧ St F' (Ow.own 9 1 encT vdata data_9 :: fr) h ∧ (FnP Try.prog F' h g_cmp fs_cmp cs_cmp (fun x : Str × Str => [.string (bs x.1), .string (bs x.2)]) (fun x => .int .i64 (cf_cmp x.1 x.2))) ∧ slices_pdqsortCmpFunc_string_j5 cf_cmp R a_1 b_1 wasBalanced_1 wasPartitioned_1 K_1 limit_2 pivot_1 data_9 b_3) ?_ ?_
            · refine HW.regionA 17 mixed (fun h => (OwnIs h 0 9 1 encT vdata data_9)) [] (by kernel_rfl) ?_
              refine HA.val (k := 0) (v := .int .i64 a_1) rfl rfl (by kernel_rfl) (by kernel_rfl) (want_none) rfl (fun _ c356 => q_move rfl) ?_
              refine HA.val (k := 1) (v := .bool (decide (0 < a_1))) rfl rfl (by kernel_rfl) (by kernel_rfl) (want_none) rfl (fun _ c356 => q_gtr rfl rfl) ?_
              refine HA.val (k := 2) (v := .bool (decide (0 < a_1))) rfl rfl (by kernel_rfl) (by kernel_rfl) (want_none) rfl (fun _ c356 => q_move rfl) ?_
              rcases Bool.eq_false_or_eq_true (decide (0 < a_1)) with c_9 | c_9
              · replace hM := hM.1 (of_decide_eq_true c_9)
                refine HA.val (k := 3) (v := .func (.func g_cmp) fs_cmp cs_cmp) rfl rfl (by kernel_rfl) (by kernel_rfl) (want_by rfl rfl c_9) rfl (fun _ c356 => q_move rfl) ?_
                refine HA.val (k := 4) (v := vdata) rfl rfl (by kernel_rfl) (by kernel_rfl) (want_by rfl rfl c_9) rfl (fun _ c356 => q_move rfl) ?_
                refine HA.val (k := 5) (v := .int .i64 a_1) rfl rfl (by kernel_rfl) (by kernel_rfl) (want_by rfl rfl c_9) rfl (fun _ c356 => q_move rfl) ?_
                obtain ⟨ho_6, hM⟩ := hM
                refine HA.val (k := 6) (v := .int .i64 (a_1 - 1)) rfl rfl (by kernel_rfl) (by kernel_rfl) (want_by rfl rfl c_9) rfl (fun _ c356 => q_subN _ rfl rfl rfl ho_6.1 ho_6.2) ?_
                obtain ⟨ho_7, hM⟩ := hM
                refine HA.val (k := 7) (v := elemPtr 1 vdata (a_1 - 1).toNat) rfl rfl (by kernel_rfl) (by kernel_rfl) (want_by rfl rfl c_9) rfl (fun _ c356 => q_idx ts_36 c356.slice rfl rfl ho_7) ?_
                refine HA.val (k := 8) (v := .string (bs (gi data_9 (a_1 - 1)))) rfl rfl (by kernel_rfl) (by kernel_rfl) (want_by rfl rfl c_9) rfl (fun _ c356 => q_ldElem to_9 c356.slice rfl ho_7 rfl) ?_
                refine HA.val (k := 9) (v := vdata) rfl rfl (by kernel_rfl) (by kernel_rfl) (want_by rfl rfl c_9) rfl (fun _ c356 => q_move rfl) ?_
                refine HA.val (k := 10) (v := .int .i64 pivot_1) rfl rfl (by kernel_rfl) (by kernel_rfl) (want_by rfl rfl c_9) rfl (fun _ c356 => q_move rfl) ?_
                obtain ⟨ho_8, hM⟩ := hM
                refine HA.val (k := 11) (v := elemPtr 1 vdata (pivot_1).toNat) rfl rfl (by kernel_rfl) (by kernel_rfl) (want_by rfl rfl c_9) rfl (fun _ c356 => q_idx ts_36 c356.slice rfl rfl ho_8) ?_
                refine HA.val (k := 12) (v := .string (bs (gi data_9 pivot_1))) rfl rfl (by kernel_rfl) (by kernel_rfl) (want_by rfl rfl c_9) rfl (fun _ c356 => q_ldElem to_9 c356.slice rfl ho_8 rfl) ?_
                refine HA.one (k := 13) ⟨(hS.own 0 rfl), (Go.Wk.at_nil _ _)⟩ (by kernel_rfl) ?_
                refine HS.call rfl (want_by rfl rfl c_9) rfl (hF_cf_cmp.ec ((gi data_9 (a_1 - 1)), (gi data_9 pivot_1)) rfl rfl) (hF_cf_cmp.hc ((gi data_9 (a_1 - 1)), (gi data_9 pivot_1)) hS) ?_
                rintro _ h_12 ⟨rfl, hS, hk⟩
                replace hK := hK.trans hk
                replace hF_cf_cmp := hF_cf_cmp.kp hk
                refine HA.val (k := 14) (v := .bool (decide ((cf_cmp (gi data_9 (a_1 - 1)) (gi data_9 pivot_1)) < 0))) rfl rfl (by kernel_rfl) (by kernel_rfl) (want_by rfl rfl c_9) rfl (fun _ c356 => q_lss rfl rfl) ?_
                refine HA.val (k := 15) (v := .bool (!decide ((cf_cmp (gi data_9 (a_1 - 1)) (gi data_9 pivot_1)) < 0))) rfl rfl (by kernel_rfl) (by kernel_rfl) (want_by rfl rfl c_9) rfl (fun _ c356 => q_not rfl) ?_
                refine HA.val (k := 16) (v := .bool (!decide ((cf_cmp (gi data_9 (a_1 - 1)) (gi data_9 pivot_1)) < 0))) rfl rfl (by kernel_rfl) (by kernel_rfl) (want_none) rfl (fun _ c356 => q_pickK true rfl c_9 rfl) ?_
                refine HA.nil ⟨(hS.own 0 rfl), (Go.Wk.at_nil _ _)⟩ (by kernel_rfl) (thenQ_normal (?_))
                exact ⟨F_12, !decide ((cf_cmp (gi data_9 (a_1 - 1)) (gi data_9 pivot_1)) < 0), rfl, rfl, rfl, rfl, rfl, rfl, rfl, rfl, rfl, rfl, hK, hS, hF_cf_cmp, hM⟩
              · replace hM := hM.2 (of_decide_eq_false c_9)
                refine HA.past (k := 3) rfl rfl (by kernel_rfl) (by kernel_rfl) (past_by rfl rfl c_9) rfl ?_
                refine HA.past (k := 4) rfl rfl (by kernel_rfl) (by kernel_rfl) (past_by rfl rfl c_9) rfl ?_
                refine HA.past (k := 5) rfl rfl (by kernel_rfl) (by kernel_rfl) (past_by rfl rfl c_9) rfl ?_
                refine HA.past (k := 6) rfl rfl (by kernel_rfl) (by kernel_rfl) (past_by rfl rfl c_9) rfl ?_
                refine HA.past (k := 7) rfl rfl (by kernel_rfl) (by kernel_rfl) (past_by rfl rfl c_9) rfl ?_
                refine HA.past (k := 8) rfl rfl (by kernel_rfl) (by kernel_rfl) (past_by rfl rfl c_9) rfl ?_
                refine HA.past (k := 9) rfl rfl (by kernel_rfl) (by kernel_rfl) (past_by rfl rfl c_9) rfl ?_
                refine HA.past (k := 10) rfl rfl (by kernel_rfl) (by kernel_rfl) (past_by rfl rfl c_9) rfl ?_
                refine HA.past (k := 11) rfl rfl (by kernel_rfl) (by kernel_rfl) (past_by rfl rfl c_9) rfl ?_
                refine HA.past (k := 12) rfl rfl (by kernel_rfl) (by kernel_rfl) (past_by rfl rfl c_9) rfl ?_
                refine HA.one (k := 13) ⟨(hS.own 0 rfl), (Go.Wk.at_nil _ _)⟩ (by kernel_rfl) ?_
                refine HS.past rfl (past_by rfl rfl c_9) rfl ?_
                refine HA.past (k := 14) rfl rfl (by kernel_rfl) (by kernel_rfl) (past_by rfl rfl c_9) rfl ?_
                refine HA.past (k := 15) rfl rfl (by kernel_rfl) (by kernel_rfl) (past_by rfl rfl c_9) rfl ?_
                refine HA.val (k := 16) (v := .bool false) rfl rfl (by kernel_rfl) (by kernel_rfl) (want_none) rfl (fun _ c356 => q_pickK false rfl c_9 rfl) ?_
                refine HA.nil ⟨(hS.own 0 rfl), (Go.Wk.at_nil _ _)⟩ (by kernel_rfl) (thenQ_normal (?_))
                exact ⟨F_12, false, rfl, rfl, rfl, rfl, rfl, rfl, rfl, rfl, rfl, rfl, hK, hS, hF_cf_cmp, hM⟩
            · rintro f_6 h_13 ⟨F_13, b_3, e0, e1, e2, e3, e4, e10, e11, e12, e13, e97, hK, hS, hF_cf_cmp, hM⟩
              unfold slices_pdqsortCmpFunc_string_j5 at hM
              refine HW.fr [(0, vdata), (1, .int .i64 a_1), (2, .int .i64 b_1), (3, .int .i64 limit_2), (4, .func (.func g_cmp) fs_cmp cs_cmp), (10, .bool wasBalanced_1), (11, .bool wasPartitioned_1), (12, .int .i64 (b_1 - a_1)), (13, .int .i64 pivot_1), (97, .bool b_3)] ⟨e0, e1, e2, e3, e4, e10, e11, e12, e13, e97, trivial⟩ ?_
              refine HW.cond b_3 rfl (fun c_10 => ?_) (fun c_10 => ?_)
              · replace hM := hM.1 c_10
                refine HW.seq ?_
                refine HW.region ?_
                refine HO.val (v := vdata) (want_none) rfl (q_move rfl) ?_
                refine HO.val (v := .int .i64 a_1) (want_none) rfl (q_move rfl) ?_
                refine HO.val (v := .int .i64 b_1) (want_none) rfl (q_move rfl) ?_
                refine HO.val (v := .int .i64 pivot_1) (want_none) rfl (q_move rfl) ?_
                refine HO.val (v := .func (.func g_cmp) fs_cmp cs_cmp) (want_none) rfl (q_move rfl) ?_
                refine HO.call (want_none) rfl (ec en_86 rfl rfl) (slices_partitionEqualCmpFunc_string_walk (fr := (fr)) data_9 a_1 b_1 pivot_1 cf_cmp vdata g_cmp fs_cmp cs_cmp hS hF_cf_cmp hM) ?_
                rintro _ h_14 ⟨F_14, r_2, data_11, rfl, hk, hS, _, hM⟩
                replace hK := hK.trans hk
                replace hF_cf_cmp := hF_cf_cmp.kp hk
                refine HO.val (v := .int .i64 r_2) (want_none) rfl (q_assign rfl) ?_
                refine HO.nil (thenQ_normal (?_))
                refine HW.seq ?_
                refine HW.region ?_
                refine HO.val (v := .int .i64 r_2) (want_none) rfl (q_move rfl) ?_
                refine HO.val (v := .int .i64 r_2) (want_none) rfl (q_assign rfl) ?_
                refine HO.nil (thenQ_normal (?_))
                refine HW.exit (thenQ_exit (blockQ_exit (thenQ_normal (?_))))
                rw [hKe_1] at hM
                exact ⟨(data_11, r_2, b_1, limit_2, wasBalanced_1, wasPartitioned_1), ⟨F_14, rfl, rfl, rfl, rfl, rfl, rfl, rfl, hK, hS, hF_cf_cmp, hM.1⟩, hM.2⟩
              · replace hM := hM.2 c_10
                refine HW.skip (thenQ_normal (?_))
                refine HW.seq ?_
                refine HW.region ?_
                refine HO.val (v := vdata) (want_none) rfl (q_move rfl) ?_
                refine HO.val (v := .int .i64 a_1) (want_none) rfl (q_move rfl) ?_
                refine HO.val (v := .int .i64 b_1) (want_none) rfl (q_move rfl) ?_
                refine HO.val (v := .int .i64 pivot_1) (want_none) rfl (q_move rfl) ?_
                refine HO.val (v := .func (.func g_cmp) fs_cmp cs_cmp) (want_none) rfl (q_move rfl) ?_
                refine HO.call (want_none) rfl (ec en_87 rfl rfl) (slices_partitionCmpFunc_string_walk (fr := (fr)) data_9 a_1 b_1 pivot_1 cf_cmp vdata g_cmp fs_cmp cs_cmp hS hF_cf_cmp hM) ?_
                rintro _ h_15 ⟨F_15, r0_2, r1_2, data_12, rfl, hk, hS, _, hM⟩
                replace hK := hK.trans hk
                replace hF_cf_cmp := hF_cf_cmp.kp hk
                refine HO.val (v := .tuple #[.int .i64 r0_2, .bool r1_2]) (want_none) rfl (q_move rfl) ?_
                refine HO.val (v := .int .i64 r0_2) (want_none) rfl (q_extract rfl rfl) ?_
                refine HO.val (v := .bool r1_2) (want_none) rfl (q_extract rfl rfl) ?_
                refine HO.val (v := .int .i64 r0_2) (want_none) rfl (q_assign rfl) ?_
                refine HO.val (v := .bool r1_2) (want_none) rfl (q_assign rfl) ?_
                refine HO.nil (thenQ_normal (?_))
                refine HW.seq ?_
                refine HW.region ?_
                refine HO.val (v := .bool r1_2) (want_none) rfl (q_move rfl) ?_
                refine HO.val (v := .bool r1_2) (want_none) rfl (q_assign rfl) ?_
                refine HO.nil (thenQ_normal (?_))
                refine HW.seq ?_
                refine HW.region ?_
                refine HO.val (v := .int .i64 r0_2) (want_none) rfl (q_move rfl) ?_
                refine HO.val (v := .int .i64 a_1) (want_none) rfl (q_move rfl) ?_
                obtain ⟨ho_9, hM⟩ := hM
                refine HO.val (v := .int .i64 (r0_2 - a_1)) (want_none) rfl (q_subN _ rfl rfl rfl ho_9.1 ho_9.2) ?_
                refine HO.val (v := .int .i64 b_1) (want_none) rfl (q_move rfl) ?_
                refine HO.val (v := .int .i64 r0_2) (want_none) rfl (q_move rfl) ?_
                obtain ⟨ho_10, hM⟩ := hM
                refine HO.val (v := .int .i64 (b_1 - r0_2)) (want_none) rfl (q_subN _ rfl rfl rfl ho_10.1 ho_10.2) ?_
                refine HO.val (v := .int .i64 (r0_2 - a_1)) (want_none) rfl (q_assign rfl) ?_
                refine HO.val (v := .int .i64 (b_1 - r0_2)) (want_none) rfl (q_assign rfl) ?_
                refine HO.nil (thenQ_normal (?_))
                refine HW.seq ?_
                refine HW.region ?_
                refine HO.val (v := .int .i64 (b_1 - a_1)) (want_none) rfl (q_move rfl) ?_
                obtain ⟨ho_11, hM⟩ := hM
                refine HO.val (v := .int .i64 ((b_1 - a_1).tdiv 8)) (want_none) rfl (q_quoN _ rfl rfl (by decide) rfl ho_11.1 ho_11.2) ?_
                refine HO.val (v := .int .i64 ((b_1 - a_1).tdiv 8)) (want_none) rfl (q_assign rfl) ?_
                refine HO.nil (thenQ_normal (?_))
                refine HW.seq ?_
                refine HW.region ?_
                refine HO.val (v := .int .i64 (r0_2 - a_1)) (want_none) rfl (q_move rfl) ?_
                refine HO.val (v := .int .i64 (b_1 - r0_2)) (want_none) rfl (q_move rfl) ?_
                refine HO.val (v := .bool (decide ((r0_2 - a_1) < (b_1 - r0_2)))) (want_none) rfl (q_lss rfl rfl) ?_
                refine HO.nil (thenQ_normal (?_))
                refine HW.cond (decide ((r0_2 - a_1) < (b_1 - r0_2))) rfl (fun c_11 => ?_) (fun c_11 => ?_)
                · replace hM := hM.1 (of_decide_eq_true c_11)
                  refine HW.seq ?_
                  refine HW.region ?_
                  refine HO.val (v := .int .i64 (r0_2 - a_1)) (want_none) rfl (q_move rfl) ?_
                  refine HO.val (v := .int .i64 ((b_1 - a_1).tdiv 8)) (want_none) rfl (q_move rfl) ?_
                  refine HO.val (v := .bool (decide (((b_1 - a_1).tdiv 8) ≤ (r0_2 - a_1)))) (want_none) rfl (q_geq rfl rfl) ?_
                  refine HO.val (v := .bool (decide (((b_1 - a_1).tdiv 8) ≤ (r0_2 - a_1)))) (want_none) rfl (q_assign rfl) ?_
                  refine HO.nil (thenQ_normal (?_))
                  refine HW.seq ?_
                  refine HW.region ?_
                  refine HO.val (v := vdata) (want_none) rfl (q_move rfl) ?_
                  refine HO.val (v := .int .i64 a_1) (want_none) rfl (q_move rfl) ?_
                  refine HO.val (v := .int .i64 r0_2) (want_none) rfl (q_move rfl) ?_
                  refine HO.val (v := .int .i64 limit_2) (want_none) rfl (q_move rfl) ?_
                  refine HO.val (v := .func (.func g_cmp) fs_cmp cs_cmp) (want_none) rfl (q_move rfl) ?_
                  refine HO.call (want_none) rfl (ec en_73 rfl rfl) (ih (fr := (fr)) data_12 a_1 r0_2 limit_2 cf_cmp vdata g_cmp fs_cmp cs_cmp hS hF_cf_cmp hM) ?_
                  rintro _ h_16 ⟨F_16, data_13, rfl, hk, hS, _, hM⟩
                  replace hK := hK.trans hk
                  replace hF_cf_cmp := hF_cf_cmp.kp hk
                  refine HO.nil (thenQ_normal (?_))
                  refine HW.region ?_
                  refine HO.val (v := .int .i64 r0_2) (want_none) rfl (q_move rfl) ?_
                  obtain ⟨ho_12, hM⟩ := hM
                  refine HO.val (v := .int .i64 (r0_2 + 1)) (want_none) rfl (q_addN _ rfl rfl rfl ho_12.1 ho_12.2) ?_
                  refine HO.val (v := .int .i64 (r0_2 + 1)) (want_none) rfl (q_assign rfl) ?_
                  refine HO.nil (blockQ_normal (thenQ_normal (?_)))
                  rw [hKe_1] at hM
                  exact ⟨(data_13, r0_2 + 1, b_1, limit_2, decide (((b_1 - a_1).tdiv 8) ≤ (r0_2 - a_1)), r1_2), ⟨F_16, rfl, rfl, rfl, rfl, rfl, rfl, rfl, hK, hS, hF_cf_cmp, hM.1⟩, hM.2⟩
                · replace hM := hM.2 (of_decide_eq_false c_11)
                  refine HW.seq ?_
                  refine HW.region ?_
                  refine HO.val (v := .int .i64 (b_1 - r0_2)) (want_none) rfl (q_move rfl) ?_
                  refine HO.val (v := .int .i64 ((b_1 - a_1).tdiv 8)) (want_none) rfl (q_move rfl) ?_
                  refine HO.val (v := .bool (decide (((b_1 - a_1).tdiv 8) ≤ (b_1 - r0_2)))) (want_none) rfl (q_geq rfl rfl) ?_
                  refine HO.val (v := .bool (decide (((b_1 - a_1).tdiv 8) ≤ (b_1 - r0_2)))) (want_none) rfl (q_assign rfl) ?_
                  refine HO.nil (thenQ_normal (?_))
                  refine HW.seq ?_
                  refine HW.region ?_
                  refine HO.val (v := vdata) (want_none) rfl (q_move rfl) ?_
                  refine HO.val (v := .int .i64 r0_2) (want_none) rfl (q_move rfl) ?_
                  obtain ⟨ho_13, hM⟩ := hM
                  refine HO.val (v := .int .i64 (r0_2 + 1)) (want_none) rfl (q_addN _ rfl rfl rfl ho_13.1 ho_13.2) ?_
                  refine HO.val (v := .int .i64 b_1) (want_none) rfl (q_move rfl) ?_
                  refine HO.val (v := .int .i64 limit_2) (want_none) rfl (q_move rfl) ?_
                  refine HO.val (v := .func (.func g_cmp) fs_cmp cs_cmp) (want_none) rfl (q_move rfl) ?_
                  refine HO.call (want_none) rfl (ec en_73 rfl rfl) (ih (fr := (fr)) data_12 (r0_2 + 1) b_1 limit_2 cf_cmp vdata g_cmp fs_cmp cs_cmp hS hF_cf_cmp hM) ?_
                  rintro _ h_17 ⟨F_17, data_14, rfl, hk, hS, _, hM⟩
                  replace hK := hK.trans hk
                  replace hF_cf_cmp := hF_cf_cmp.kp hk
                  refine HO.nil (thenQ_normal (?_))
                  refine HW.region ?_
                  refine HO.val (v := .int .i64 r0_2) (want_none) rfl (q_move rfl) ?_
                  refine HO.val (v := .int .i64 r0_2) (want_none) rfl (q_assign rfl) ?_
                  refine HO.nil (blockQ_normal (thenQ_normal (?_)))
                  rw [hKe_1] at hM
                  exact ⟨(data_14, a_1, r0_2, limit_2, decide (((b_1 - a_1).tdiv 8) ≤ (b_1 - r0_2)), r1_2), ⟨F_17, rfl, rfl, rfl, rfl, rfl, rfl, rfl, hK, hS, hF_cf_cmp, hM.1⟩, hM.2⟩
set_option maxHeartbeats 40000000 in
set_option maxRecDepth 100000 in
theorem slices_pdqsortCmpFunc_string_walk {F : Fz} {fr : List Ow} {h0 : Heap} (data : List Str) (a : Int) (b : Int) (limit : Int) (cf_cmp : Str → Str → Int) (vdata : Value) (g_cmp : Nat) (fs_cmp : Array Value) (cs_cmp : Array Value) (hS : St F (Ow.own 9 1 encT vdata data :: fr) h0) (hF_cf_cmp : FnP Try.prog F h0 g_cmp fs_cmp cs_cmp (fun x : Str × Str => [.string (bs x.1), .string (bs x.2)]) (fun x => .int .i64 (cf_cmp x.1 x.2))) {Q : (List Str) → Prop} (hM : slices_pdqsortCmpFunc_string_W data a b limit cf_cmp Q) :
    HC Try.prog 73 #[vdata, .int .i64 a, .int .i64 b, .int .i64 limit, .func (.func g_cmp) fs_cmp cs_cmp] h0 fun u h' => ∃ (F' : Fz) (data_1 : List Str), u = .tuple #[] ∧ Kp F h0 F' h' ∧ St F' (Ow.own 9 1 encT vdata data_1 :: fr) h' ∧ (FnP Try.prog F' h' g_cmp fs_cmp cs_cmp (fun x : Str × Str => [.string (bs x.1), .string (bs x.2)]) (fun x => .int .i64 (cf_cmp x.1 x.2))) ∧ Q data_1 := by
  obtain ⟨n_, hM⟩ := hM
  exact slices_pdqsortCmpFunc_string_walkn n_ data a b limit cf_cmp vdata g_cmp fs_cmp cs_cmp hS hF_cf_cmp hM

def slices_SortFunc_s_string_string_W (x : List Str) (cf_cmp : Str → Str → Int) (Q : (List Str) → Prop) : Prop :=
  ((0 : Int) ≤ (IntKind.u64.wrap (x.length : Int)) ∧ (IntKind.u64.wrap (x.length : Int)) ≤ 18446744073709551615) ∧ (slices_pdqsortCmpFunc_string_W x 0 (x.length : Int) (blen (IntKind.u64.wrap (x.length : Int))) cf_cmp (fun data_1 => Q data_1))
set_option maxHeartbeats 40000000 in
set_option maxRecDepth 100000 in
theorem slices_SortFunc_s_string_string_walk {F : Fz} {fr : List Ow} {h0 : Heap} (x : List Str) (cf_cmp : Str → Str → Int) (vx : Value) (g_cmp : Nat) (fs_cmp : Array Value) (cs_cmp : Array Value) (hS : St F (Ow.own 9 1 encT vx x :: fr) h0) (hF_cf_cmp : FnP Try.prog F h0 g_cmp fs_cmp cs_cmp (fun x : Str × Str => [.string (bs x.1), .string (bs x.2)]) (fun x => .int .i64 (cf_cmp x.1 x.2))) {Q : (List Str) → Prop} (hM : slices_SortFunc_s_string_string_W x cf_cmp Q) :
    HC Try.prog 64 #[vx, .func (.func g_cmp) fs_cmp cs_cmp] h0 fun u h' => ∃ (F' : Fz) (x_1 : List Str), u = .tuple #[] ∧ Kp F h0 F' h' ∧ St F' (Ow.own 9 1 encT vx x_1 :: fr) h' ∧ (FnP Try.prog F' h' g_cmp fs_cmp cs_cmp (fun x : Str × Str => [.string (bs x.1), .string (bs x.2)]) (fun x => .int .i64 (cf_cmp x.1 x.2))) ∧ Q x_1 := by
  unfold slices_SortFunc_s_string_string_W at hM
  have hK := Kp.refl F h0
  refine HC.of_HW (n := 14) Try.func64 rfl rfl (Nat.le_of_ble_eq_true rfl) ?_
  refine HW.seq ?_
  refine HW.region ?_
  refine HO.val (v := vx) (want_none) rfl (q_move rfl) ?_
  refine HO.val (v := .int .i64 (x.length : Int)) (want_none) rfl (q_len ts_36 (shp (hS.own 0 rfl).slice) rfl rfl) ?_
  refine HO.val (v := .int .i64 (x.length : Int)) (want_none) rfl (q_assign rfl) ?_
  refine HO.nil (thenQ_normal (?_))
  refine HW.region ?_
  refine HO.val (v := vx) (want_none) rfl (q_move rfl) ?_
  refine HO.val (v := .int .i64 (x.length : Int)) (want_none) rfl (q_move rfl) ?_
  refine HO.val (v := .int .i64 (x.length : Int)) (want_none) rfl (q_move rfl) ?_
  refine HO.val (v := .int .u64 (IntKind.u64.wrap (x.length : Int))) (want_none) rfl (q_convInt Try.underlying3 Try.underlying109 rfl rfl) ?_
  obtain ⟨ho_1, hM⟩ := hM
  refine HO.call (want_none) rfl (ec en_74 rfl rfl) (blen_hc Try.blen (IntKind.u64.wrap (x.length : Int)) ho_1 _) ?_
  rintro _ h_1 ⟨rfl, hEq⟩
  rw [hEq]
  refine HO.val (v := .func (.func g_cmp) fs_cmp cs_cmp) (want_none) rfl (q_move rfl) ?_
  refine HO.call (want_none) rfl (ec en_73 rfl rfl) (slices_pdqsortCmpFunc_string_walk (fr := (fr)) x 0 (x.length : Int) (blen (IntKind.u64.wrap (x.length : Int))) cf_cmp vx g_cmp fs_cmp cs_cmp hS hF_cf_cmp hM) ?_
  rintro _ h_2 ⟨F_1, data_1, rfl, hk, hS, _, hM⟩
  replace hK := hK.trans hk
  replace hF_cf_cmp := hF_cf_cmp.kp hk
  refine HO.nil (?_)
  refine ⟨.inl rfl, .tuple #[], res0 rfl , ?_⟩
  exact ⟨F_1, data_1, rfl, hK, hS, hF_cf_cmp, hM⟩
end Go.Wk
