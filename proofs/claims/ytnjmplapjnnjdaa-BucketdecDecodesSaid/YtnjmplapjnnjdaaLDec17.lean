import Derived.Test.YtnjmplapjnnjdaaRBoth
import Derived.Test.YtnjmplapjnnjdaaSeDec
import Derived.Test.YtnjmplapjnnjdaaLExact17b
import Derived.Test.YtnjmplapjnnjdaaOpenOps
import Derived.Test.YtnjmplapjnnjdaaLFloors
set_option linter.unusedSimpArgs false
set_option linter.unusedVariables false
set_option linter.unnecessarySimpa false
/- The search of layer 17, the document's: Result. -/
namespace Go.Proofs.Ytnjmplapjnnjdaa
open Go.RowKit
set_option linter.unusedSimpArgs false
set_option linter.unusedVariables false

set_option maxRecDepth 5000 in
theorem rq_Dip (p : Pb) (a : Option Addr) (cap : Nat) (hp : p.Ok) (bs : List Nat) (ab : Option Addr) (cb : Nat) (hbl : (bs.length : Int) ≤ 9223372036854775807) (w : World) (hw : Bytes w a p.B) (hby : Bytes w ab bs) :
    Pure Try.prog 76 #[.agg (p.cells (.slice a p.B.length cap)), .slice ab bs.length cb] w (.tuple #[.int .i64 (p.dip bs), .int .i64 (p.pathChk bs)]) := by
  go_enter Try.func76, Try.ntmps76
  go_upto_region 1 with (fail)
  refine name1 ?_
  intro w0 b2 B0
  obtain ⟨fk, fr, flev, fl, fwin, fcode, ftable, fall⟩ := b2.prob hp
  clear fk fr flev fl fwin fcode ftable
  go_wp2_with ((with_reducible apply ld); rfl; (with_reducible assumption); (simp only [List.set_cons_zero, List.set_cons_succ]; rfl))
  refine (ref11_Both p a cap hp bs ab cb hbl _ (hw.kept B0) (hby.kept B0)).mono ?_
  rintro e w1 ⟨rfl, B1⟩
  go_wp2
  go_ret2
  exact ⟨rfl, bOn B0 B1⟩
set_option maxRecDepth 5000 in
set_option maxHeartbeats 2000000 in
theorem rq_Result {w : World} {p : Pb} (hp : p.Ok) (hc : probChk p = 0) {D : Int} (hD : 1 ≤ D) {most : Nat} {s : Bq} (hs : s.Ok p D most) {es : List (Ent × Value)} {fv : Value} {A : RA} {Ow : Nat → Prop} (h : Rq w p D most s es fv A Ow) :
    Calls Try.prog 39 #[.pointer (some ⟨A.sb, 0, none⟩)] w (ResPost (p.bres D s) w) := by
  go_enter Try.func39, Try.ntmps39
  go_upto_region 1 with fail
  refine name1 ?_
  intro w1 b2 B1
  have h1 := h.kept B1
  have c44 := (h1.at_ hp).c44
  have c45 := (h1.at_ hp).c45
  go_upto_region 3 with fail
  (refine wp_region_treeV (fun W => Below w1.heap.size w1 W) 10 (.pure 0 (.pure 1 (.pure 2 (.pure 3 (.pure 4 (.pure 5 (.pure 6 (.pure 7 (.pure 8 (.one 9 (.one 10 .nil))))))))))) (by kernel_rfl) (by kernel_rfl) ?_; simp only [List.getD_cons_zero, List.getD_cons_succ, wpOVI])
  intro w2 B2
  iterate 8
    refine ⟨fun _ => B2, _, fun W hI => by have c44 := KeptW.cell c44 ⟨W, hI⟩; have c45 := KeptW.cell c45 ⟨W, hI⟩; go_simp; first | done | rfl, ?_⟩
    try simp only [put_list, List.set_cons_zero, List.set_cons_succ]
  refine ⟨fun _ => B2, .agg #[.bool false, .bool false, .slice none 0 0, .int .i64 0, .int .i64 0, .int .i64 s.work, .int .i64 s.drops], fun W hI => by go_simp, ?_⟩
  try simp only [put_list, List.set_cons_zero, List.set_cons_succ]
  refine ⟨fun _ => B2, ?_⟩
  have bn := Box.new w2 #[.bool false, .bool false, .slice none 0 0, .int .i64 0, .int .i64 0, .int .i64 0, .int .i64 0] 35
  go_wp2_with (first | ((with_reducible apply ld); rfl; (with_reducible assumption); (simp only [List.set_cons_zero, List.set_cons_succ]; rfl)) | ((with_reducible apply stO); rfl; rfl; exact bn; rfl; rfl; exact flatR; intro w3 b3 B3 ho3 hs3))
  refine ⟨B2.alloc B2.size _, ?_⟩
  go_upto_region 4 with (first | ((with_reducible apply ld); rfl; (with_reducible assumption); (simp only [List.set_cons_zero, List.set_cons_succ]; rfl)) | ((with_reducible apply stO); rfl; rfl; exact bn; rfl; rfl; exact flatR; intro w3 b3 B3 ho3 hs3))
  have b3' : Box w3 w2.heap.size #[.bool false, .bool false, .slice none 0 0, .int .i64 0, .int .i64 0, .int .i64 s.work, .int .i64 s.drops] := b3
  have B32 : Below w2.heap.size w2 w3 := ((Below.refl _ w2).alloc (Nat.le_refl _) _).trans B3
  have h3 := (h1.kept B2).kept B32
  have b23 := (b2.kept B2).kept B32
  have B30 := bOn (bOn B1 B2) B32
  have hn3 : w.heap.size < w2.heap.size := by have := b2.lt; have := B2.size; omega
  have c48 := (h3.at_ hp).c48
  clear b3 B3 ho3 hs3 bn h1 b2 c44 c45 B32 B2 B1
  cases hf : s.found with
  | none =>
    rw [hf] at c48
    replace c48 : w3.cell? ⟨A.sb, 48, none⟩ = some (.bool false) := c48
    have hR : p.bres D s = ⟨false, false, [], 0, 0, s.work, s.drops⟩ := by unfold Pb.bres; rw [hf]
    have HR := Lib.hid hR
    clear hR hf
    have g3 := b3'.load (off := 0) (n := 7) (cs' := #[.bool false, .bool false, .slice none 0 0, .int .i64 0, .int .i64 0, .int .i64 s.work, .int .i64 s.drops]) (Nat.le_refl _) rfl
    go_wp2_with (first | ((with_reducible apply ld); rfl; (with_reducible assumption); (simp only [List.set_cons_zero, List.set_cons_succ]; rfl)) | ((with_reducible apply stO); rfl; rfl; exact b23; rfl; rfl; exact flatR; intro w4 b4 B4 ho4 hs4))
    refine bodyPost_ret (results_cellAgg rfl rfl (b4.load (off := 0) (n := 7) (cs' := #[.bool false, .bool false, .slice none 0 0, .int .i64 0, .int .i64 0, .int .i64 s.work, .int .i64 s.drops]) (Nat.le_refl _) rfl)) rfl ?_
    rw [HR.out]
    exact (show ResPost _ _ _ _ from ⟨⟨none, 0, rfl, ⟨rfl, .inl ⟨rfl, rfl⟩⟩⟩, B30.trans B4⟩)
  | some en =>
    rw [hf] at c48
    replace c48 : w3.cell? ⟨A.sb, 48, none⟩ = some (.bool true) := c48
    obtain ⟨heo, hed⟩ := hs.fnd en hf
    obtain ⟨hpath, hlen, hdip, _⟩ := heo.path hc hed
    obtain ⟨_, l1, l2, _⟩ := probChk_ok hc
    have hNb := Pb.N_le hc
    have hLN : p.L.toNat ≤ en.bs.length := by unfold Pb.N at *; have := hlen; omega
    have hbd : ∀ b ∈ en.bs, b < 256 := fun b hb => by have := heo.lt b hb; omega
    have hdb := heo.dip_bd hc
    have HF := Lib.hid hf
    have HPATH := Lib.hid hpath
    have HDIP := Lib.hid hdip
    obtain ⟨LN, hLN'⟩ : ∃ LN, LN = p.L.toNat := ⟨_, rfl⟩
    have hLi : p.L = (LN : Int) := by omega
    rw [← hLN'] at hLN
    have HLN := Lib.hid hLN'
    have HLI := Lib.hid hLi
    obtain ⟨rb, hrb⟩ : ∃ rb, rb = w2.heap.size := ⟨_, rfl⟩
    rw [← hrb] at b3' hn3 ⊢
    have hbl : en.bs.length ≤ 1100 := by omega
    have hpos : 0 < en.bs.length := by omega
    clear hf hpath hdip hLN' hLi hrb hed hlen l1 l2 hNb heo
    have c0 := b3'.cell 0
    have z0 := b3'.frozen 0
    simp only [List.getElem?_toArray, List.getElem?_cons_zero] at c0
    have hge : w.heap.size ≤ rb := by omega
    have hrl : ∀ k, A.has k ∨ Ow k → k ≠ rb := fun k hk => by
      have h1 : k < w.heap.size := hk.elim h.hasLt fun hk => (h.ow k hk).2
      omega
    have HRL := Lib.hid hrl
    go_upto_region 6 with fail
    refine nameAny (fun W => Rq W p D most s es fv A Ow ∧ Box W w.heap.size #[.bool false, .bool false, .slice none 0 0, .int .i64 0, .int .i64 0, .int .i64 0, .int .i64 0] ∧ Box W rb #[.bool true, .bool false, .slice none 0 0, .int .i64 0, .int .i64 0, .int .i64 s.work, .int .i64 s.drops] ∧ Below w.heap.size w W ∧ rb < W.heap.size) ⟨h3.same (by simp) fun k hk => Below.heap_setCell _ _ _ _ (hrl k hk), b23.setOther (p := ⟨rb, 0, none⟩) (by show rb ≠ w.heap.size; omega) _, b3'.setCell (i := 0) (.bool true), B30.setCell (p := ⟨rb, 0, none⟩) hge _, by have := b3'.lt; simpa using this⟩ ?_
    clear c0 z0 h3 b23 b3' B30 c48 hrl
    rintro w5 ⟨h5, b25, b35, B50, hrl5⟩
    have hfnd := h5.fnd
    have hgd : (s.found.getD ent0) = en := by rw [HF.out]; rfl
    rw [hgd] at hfnd
    obtain ⟨ax, cx, hfv, hby, hlc, hob⟩ := hfnd
    obtain ⟨gx, ox, hax, _⟩ := hby.cell 0 hpos
    subst hax
    have c52 : w5.cell? ⟨A.sb, 52, none⟩ = some (.slice (some ⟨gx, ox, none⟩) en.bs.length cx) := by rw [← hfv]; exact (h5.at_ hp).c52
    have c38 : w5.cell? ⟨A.sb, 38, none⟩ = some (.int .i64 (LN : Int)) := by rw [← HLI.out]; exact (h5.at_ hp).c38
    have C52 := Lib.hid c52
    have C38 := Lib.hid c38
    have hLc : LN ≤ cx := by omega
    clear hfv hgd c52 c38
    (refine wp_region_treeT (fun W => Below w5.heap.size w5 W) 12 (.free 1 (.free 2 (.free 3 (.free 4 (.pure 5 (.free 6 (.free 7 (.free 8 (.free 9 (.pure 10 (.free 11 (.one 0 (.one 12 (.free 13 (.one 14 .nil))))))))))))))) (by kernel_rfl) (by kernel_rfl) ?_; simp only [List.getD_cons_zero, List.getD_cons_succ, wpOVI])
    intro w6 B6
    iterate 4
      refine ⟨rfl, _, fun W => by go_simp; first | done | rfl, ?_⟩
      try simp only [put_list, List.set_cons_zero, List.set_cons_succ]
    refine ⟨fun _ => B6, .slice (some ⟨gx, ox, none⟩) en.bs.length cx, fun W hI => by have c := KeptW.cell C52.out ⟨W, hI⟩; go_simp, ?_⟩
    try simp only [put_list, List.set_cons_zero, List.set_cons_succ]
    iterate 4
      refine ⟨rfl, _, fun W => by go_simp; first | done | rfl, ?_⟩
      try simp only [put_list, List.set_cons_zero, List.set_cons_succ]
    refine ⟨fun _ => B6, .int .i64 (LN : Int), fun W hI => by have c := KeptW.cell C38.out ⟨W, hI⟩; go_simp, ?_⟩
    try simp only [put_list, List.set_cons_zero, List.set_cons_succ]
    refine ⟨rfl, .slice (some ⟨gx, ox, none⟩) LN cx, fun W => pure_slHi rfl rfl hLc, ?_⟩
    try simp only [put_list, List.set_cons_zero, List.set_cons_succ]
    refine ⟨fun _ => B6, ?_⟩
    go_wp2_with fail
    refine ⟨B6.alloc B6.size _, ?_⟩
    have BA : Below w6.heap.size w6 (w6.alloc (.cells #[] 5)) := (Below.refl _ w6).alloc (Nat.le_refl _) _
    have hown : (w6.alloc (.cells #[] 5)).ownsRow w6.heap.size 5 1 (.slice (some ⟨w6.heap.size, 0, none⟩) 0 0) 0 [] := World.ownsRow_lit (e := 5) (size := 1) w6 #[] 0 (Nat.le_refl _) (by decide) rfl
    have hbyA : Bytes (w6.alloc (.cells #[] 5)) (some ⟨gx, ox, none⟩) (en.bs.take LN) := by
      have := ((hby.kept B6).kept BA).part 0 LN
      simpa using this
    have htl : (en.bs.take LN).length = LN := by rw [List.length_take, Nat.min_eq_left hLN]
    have HTL := Lib.hid htl
    have hLN11 : LN ≤ 1100 := by omega
    refine apB hown hbyA rfl rfl htl (by omega) (by simp) ?_
    intro v9 w9 hown9 hgr9 hat9
    have B9' := own_below hown hgr9 (by simp)
    obtain ⟨g9, c9, rfl, hc9, hg9⟩ := doc_form hown9 hat9
    simp only [Nat.zero_add, List.nil_append] at hown9 hc9 ⊢
    have B9 : Below w6.heap.size w6 w9 := BA.trans B9'
    have B95 := bOn B6 B9
    have h9 := h5.kept B95
    have b29 := b25.kept B95
    have b39 := b35.kept B95
    have B90 := bOn B50 B95
    have own9 : w9.ownsRow w.heap.size 5 1 (.slice (some ⟨g9, 0, none⟩) LN c9) LN (u8s (en.bs.take LN)) := owns_base hown9 (Nat.le_trans B50.size B6.size)
    have hgrb : g9 ≠ rb := by have := B6.size; omega
    have hg9w : w.heap.size < g9 := by have := B6.size; omega
    clear hown hbyA BA B9' hgr9 hat9 hown9 htl hby B6 B9 B95 h5 b25 b35 B50 hg9
    have c2 := b39.cell 2
    have z2 := b39.frozen 2
    simp only [List.getElem?_toArray, List.getElem?_cons_zero, List.getElem?_cons_succ] at c2
    refine ⟨rfl, ?_⟩
    first
      | refine ⟨rfl, _, fun W => by go_simp; first | done | rfl, ?_⟩
      | refine ⟨_, fun W => by go_simp; first | done | rfl, ?_⟩
    try simp only [put_list, List.set_cons_zero, List.set_cons_succ]
    go_upto_region 7 with fail
    refine nameAny (fun W => Rq W p D most s es fv A Ow ∧ Box W w.heap.size #[.bool false, .bool false, .slice none 0 0, .int .i64 0, .int .i64 0, .int .i64 0, .int .i64 0] ∧ Box W rb #[.bool true, .bool false, (.slice (some ⟨g9, 0, none⟩) LN c9), .int .i64 0, .int .i64 0, .int .i64 s.work, .int .i64 s.drops] ∧ W.ownsRow w.heap.size 5 1 (.slice (some ⟨g9, 0, none⟩) LN c9) LN (u8s (en.bs.take LN)) ∧ Below w.heap.size w W) ⟨h9.same (by simp) fun k hk => Below.heap_setCell _ _ _ _ (HRL.out k hk), b29.setOther (p := ⟨rb, 2, none⟩) (by show rb ≠ w.heap.size; omega) _, b39.setCell (i := 2) (.slice (some ⟨g9, 0, none⟩) LN c9), ownsN_block own9 fun k hk => Below.heap_setCell _ _ _ _ (by rw [← Option.some.inj hk]; exact hgrb), B90.setCell (p := ⟨rb, 2, none⟩) hge _⟩ ?_
    clear c2 z2 h9 b29 b39 own9 B90
    rintro w10 ⟨h10, b210, b310, own10, B100⟩
    have c51 : w10.cell? ⟨A.sb, 51, none⟩ = some (.int .i64 en.n.m) := by
      have hgd : (s.found.getD ent0) = en := by rw [HF.out]; rfl
      rw [← hgd]; exact (h10.at_ hp).c51
    have c3 := b310.cell 3
    have z3 := b310.frozen 3
    simp only [List.getElem?_toArray, List.getElem?_cons_zero, List.getElem?_cons_succ] at c3
    go_upto_region 8 with fail
    refine nameAny (fun W => Rq W p D most s es fv A Ow ∧ Box W w.heap.size #[.bool false, .bool false, .slice none 0 0, .int .i64 0, .int .i64 0, .int .i64 0, .int .i64 0] ∧ Box W rb #[.bool true, .bool false, (.slice (some ⟨g9, 0, none⟩) LN c9), .int .i64 en.n.m, .int .i64 0, .int .i64 s.work, .int .i64 s.drops] ∧ W.ownsRow w.heap.size 5 1 (.slice (some ⟨g9, 0, none⟩) LN c9) LN (u8s (en.bs.take LN)) ∧ Below w.heap.size w W) ⟨h10.same (by simp) fun k hk => Below.heap_setCell _ _ _ _ (HRL.out k hk), b210.setOther (p := ⟨rb, 3, none⟩) (by show rb ≠ w.heap.size; omega) _, b310.setCell (i := 3) (.int .i64 en.n.m), ownsN_block own10 fun k hk => Below.heap_setCell _ _ _ _ (by rw [← Option.some.inj hk]; exact hgrb), B100.setCell (p := ⟨rb, 3, none⟩) hge _⟩ ?_
    clear c51 c3 z3 h10 b210 b310 own10 B100
    rintro w11 ⟨h11, b211, b311, own11, B110⟩
    (refine wp_region_treeE (.pure 0 (.pure 1 (.pure 2 (.pure 3 (.pure 4 (.pure 5 (.one 6 (.pure 7 (.pure 8 (.pure 9 (.one 10 (.one 11 .nil)))))))))))) (by kernel_rfl) (by kernel_rfl) ?_; simp only [List.getD_cons_zero, List.getD_cons_succ, wpOTE])
    intro w12 B12
    have h12 := h11.kept B12
    have b212 := b211.kept B12
    have b312 := b311.kept B12
    have own12 := ownsN_block (w' := w12) own11 fun q hq => B12.block q (World.ownsRow.lt own11 q hq).2
    have B120 := bOn B110 B12
    clear h11 b211 b311 own11 B110 B12
    iterate 3
      refine ⟨rfl, _, fun W hW => by go_simp; first | done | rfl, ?_⟩
      try simp only [put_list, List.set_cons_zero, List.set_cons_succ]
    refine ⟨rfl, .agg (p.cells (.slice (some ⟨A.g, 0, none⟩) p.B.length A.c)), fun W hW => pure_ldR rfl (((h12.kept hW).at_ hp).all), ?_⟩
    try simp only [put_list, List.set_cons_zero, List.set_cons_succ]
    iterate 1
      refine ⟨rfl, _, fun W hW => by go_simp; first | done | rfl, ?_⟩
      try simp only [put_list, List.set_cons_zero, List.set_cons_succ]
    refine ⟨rfl, .slice (some ⟨g9, 0, none⟩) LN c9, fun W hW => by have c2 : W.cell? ⟨rb, 2, none⟩ = some (.slice (some ⟨g9, 0, none⟩) LN c9) := (b312.kept hW).cell 2; go_simp, ?_⟩
    try simp only [put_list, List.set_cons_zero, List.set_cons_succ]
    have hby12 : Bytes w12 (some ⟨g9, 0, none⟩) (en.bs.take LN) := own_bytes own12 (fun b hb => hbd b (List.mem_of_mem_take hb))
    have hdp := rq_Dip p (some ⟨A.g, 0, none⟩) A.c hp (en.bs.take LN) (some ⟨g9, 0, none⟩) c9 (by rw [HTL.out]; omega) w12 h12.tree.win hby12
    rw [HTL.out] at hdp
    have hdv : p.dip (en.bs.take LN) = en.dip := by
      have hck : p.pathChk (en.bs.take LN) = 0 := by rw [HLN.out]; exact Pb.path_chk hc HPATH.out.len HPATH.out.lt
      unfold Pb.dip
      rw [if_neg (by simp [hck]), HLN.out]
      exact HDIP.out
    rw [hdv] at hdp
    obtain ⟨ck, hck⟩ : ∃ ck, ck = p.pathChk (en.bs.take LN) := ⟨_, rfl⟩
    rw [← hck] at hdp
    clear hck hdv
    refine one_call rfl rfl inferInstance rfl ?_
    refine hdp.mono ?_
    rintro e w13 ⟨rfl, B13⟩
    refine ⟨_, rfl, rfl, B13, ?_⟩
    simp only [List.set_cons_zero, List.set_cons_succ]
    iterate 3
      refine ⟨rfl, _, fun W hW => by go_simp; first | done | rfl, ?_⟩
      try simp only [put_list, List.set_cons_zero, List.set_cons_succ]
    refine one_valR rfl (v := .int .i64 en.dip) (by go_simp) ⟨Below.refl _ _, ?_⟩
    try simp only [put_list, List.set_cons_zero, List.set_cons_succ]
    refine one_valR rfl (v := .int .i64 ck) (by go_simp) ⟨Below.refl _ _, ?_⟩
    try simp only [put_list, List.set_cons_zero, List.set_cons_succ]
    have h13 := h12.kept B13
    have b213 := b212.kept B13
    have b313 := b312.kept B13
    have own13 := ownsN_block (w' := w13) own12 fun q hq => B13.block q (World.ownsRow.lt own12 q hq).2
    have B130 := bOn B120 B13
    clear h12 b212 b312 own12 B120 B13 hby12 hdp
    have c4 := b313.cell 4
    have z4 := b313.frozen 4
    simp only [List.getElem?_toArray, List.getElem?_cons_zero, List.getElem?_cons_succ] at c4
    go_upto_region 10 with fail
    refine nameAny (fun W => Rq W p D most s es fv A Ow ∧ Box W w.heap.size #[.bool false, .bool false, .slice none 0 0, .int .i64 0, .int .i64 0, .int .i64 0, .int .i64 0] ∧ Box W rb #[.bool true, .bool false, (.slice (some ⟨g9, 0, none⟩) LN c9), .int .i64 en.n.m, .int .i64 en.dip, .int .i64 s.work, .int .i64 s.drops] ∧ W.ownsRow w.heap.size 5 1 (.slice (some ⟨g9, 0, none⟩) LN c9) LN (u8s (en.bs.take LN)) ∧ Below w.heap.size w W) ⟨h13.same (by simp) fun k hk => Below.heap_setCell _ _ _ _ (HRL.out k hk), b213.setOther (p := ⟨rb, 4, none⟩) (by show rb ≠ w.heap.size; omega) _, b313.setCell (i := 4) (.int .i64 en.dip), ownsN_block own13 fun k hk => Below.heap_setCell _ _ _ _ (by rw [← Option.some.inj hk]; exact hgrb), B130.setCell (p := ⟨rb, 4, none⟩) hge _⟩ ?_
    clear c4 z4 h13 b213 b313 own13 B130
    rintro w14 ⟨h14, b214, b314, own14, B140⟩
    have c47 : w14.cell? ⟨A.sb, 47, none⟩ = some (.bool s.some_) := (h14.at_ hp).c47
    have c46 : w14.cell? ⟨A.sb, 46, none⟩ = some (.int .i64 s.gone) := (h14.at_ hp).c46
    have c42 : w14.cell? ⟨A.sb, 42, none⟩ = some (.int .i64 D) := (h14.at_ hp).c42
    have c4 := b314.cell 4
    simp only [List.getElem?_toArray, List.getElem?_cons_zero, List.getElem?_cons_succ] at c4
    cases hsm : s.some_ with
    | false =>
      rw [hsm] at c47
      have SM := Lib.hid hsm
      clear hsm
      (refine wp_region_kept_tail 19 (by kernel_rfl) (by kernel_rfl) ?_; simp only [List.take_succ_cons, List.take_zero, List.drop_succ_cons, List.drop_zero])
      have q47 := KeptW.cell c47
      clear c47 c46 c42 c4
      repeat first
        | go_big_quiet_skip
        | go_big_quiet_step (fail)
      refine wpQuiet_nil ?_
      intro w15 B15
      clear q47
      have hR : p.bres D s = ⟨true, true, en.bs.take LN, en.n.m, en.dip, s.work, s.drops⟩ := by
        unfold Pb.bres
        rw [HF.out, HLN.out, SM.out]
        simp only [Bool.not_true, Bool.not_false, Bool.true_or, Bool.false_or]
      have HR := Lib.hid hR
      have h15 := h14.kept B15
      have b215 := b214.kept B15
      have b315 := b314.kept B15
      have own15 := ownsN_block (w' := w15) own14 fun q hq => B15.block q (World.ownsRow.lt own14 q hq).2
      have B150 := bOn B140 B15
      clear hR h14 b214 b314 own14 B140 B15
      have c1 := b315.cell 1
      have z1 := b315.frozen 1
      simp only [List.getElem?_toArray, List.getElem?_cons_zero, List.getElem?_cons_succ] at c1
      go_upto_region 11 with fail
      refine nameAny (fun W => Box W w.heap.size #[.bool false, .bool false, .slice none 0 0, .int .i64 0, .int .i64 0, .int .i64 0, .int .i64 0] ∧ Box W rb #[.bool true, .bool (true), (.slice (some ⟨g9, 0, none⟩) LN c9), .int .i64 en.n.m, .int .i64 en.dip, .int .i64 s.work, .int .i64 s.drops] ∧ W.ownsRow w.heap.size 5 1 (.slice (some ⟨g9, 0, none⟩) LN c9) LN (u8s (en.bs.take LN)) ∧ Below w.heap.size w W) ⟨b215.setOther (p := ⟨rb, 1, none⟩) (by show rb ≠ w.heap.size; omega) _, b315.setCell (i := 1) (.bool (true)), ownsN_block own15 fun k hk => Below.heap_setCell _ _ _ _ (by rw [← Option.some.inj hk]; exact hgrb), B150.setCell (p := ⟨rb, 1, none⟩) hge _⟩ ?_
      clear c1 z1 h15 b215 b315 own15 B150
      rintro w16 ⟨b216, b316, own16, B160⟩
      have g16 := b316.load (off := 0) (n := 7) (cs' := #[.bool true, .bool (true), (.slice (some ⟨g9, 0, none⟩) LN c9), .int .i64 en.n.m, .int .i64 en.dip, .int .i64 s.work, .int .i64 s.drops]) (Nat.le_refl _) rfl
      go_wp2_with (first | ((with_reducible apply ld); rfl; (with_reducible assumption); (simp only [List.set_cons_zero, List.set_cons_succ]; rfl)) | ((with_reducible apply stO); rfl; rfl; exact b216; rfl; rfl; exact flatR; intro w17 b17 B17 ho17 hs17))
      refine bodyPost_ret (results_cellAgg rfl rfl (b17.load (off := 0) (n := 7) (cs' := #[.bool true, .bool (true), (.slice (some ⟨g9, 0, none⟩) LN c9), .int .i64 en.n.m, .int .i64 en.dip, .int .i64 s.work, .int .i64 s.drops]) (Nat.le_refl _) rfl)) rfl ?_
      rw [HR.out]
      refine (show ResPost _ _ _ _ from ⟨⟨some ⟨g9, 0, none⟩, c9, by show _ = Ending.returned (.agg #[.bool true, .bool _, .slice _ (en.bs.take LN).length _, _, _, _, _]); rw [HTL.out], ?_⟩, B160.trans B17⟩)
      show w17.ownsRow w.heap.size 5 1 (.slice (some ⟨g9, 0, none⟩) (en.bs.take LN).length c9) (en.bs.take LN).length (u8s (en.bs.take LN))
      rw [HTL.out]
      exact ownsN_block own16 fun k hk => ho17 k (by rw [← Option.some.inj hk]; exact Nat.ne_of_gt hg9w)
    | true =>
      rw [hsm] at c47
      have SM := Lib.hid hsm
      clear hsm
      (refine wp_region_kept_tail 19 (by kernel_rfl) (by kernel_rfl) ?_; simp only [List.take_succ_cons, List.take_zero, List.drop_succ_cons, List.drop_zero])
      have q47 := KeptW.cell c47
      have q46 := KeptW.cell c46
      have q42 := KeptW.cell c42
      have q4 := KeptW.cell c4
      clear c47 c46 c42 c4
      repeat first
        | go_big_quiet_skip
        | go_big_quiet_step (exact Calls.kept (ref11_Down en.dip D hD (by omega) (by omega) _))
      refine wpQuiet_nil ?_
      intro w15 B15
      clear q47 q46 q42 q4
      obtain ⟨ex, hex⟩ : ∃ ex, ex = decide (s.gone ≤ en.dip / D) := ⟨_, rfl⟩
      rw [← hex]
      have hR : p.bres D s = ⟨true, ex, en.bs.take LN, en.n.m, en.dip, s.work, s.drops⟩ := by
        unfold Pb.bres
        rw [HF.out, HLN.out, SM.out]
        simp only [Bool.not_true, Bool.not_false, Bool.true_or, Bool.false_or]
        rw [hex]
      have HR := Lib.hid hR
      have h15 := h14.kept B15
      have b215 := b214.kept B15
      have b315 := b314.kept B15
      have own15 := ownsN_block (w' := w15) own14 fun q hq => B15.block q (World.ownsRow.lt own14 q hq).2
      have B150 := bOn B140 B15
      clear hex hR h14 b214 b314 own14 B140 B15
      have c1 := b315.cell 1
      have z1 := b315.frozen 1
      simp only [List.getElem?_toArray, List.getElem?_cons_zero, List.getElem?_cons_succ] at c1
      go_upto_region 11 with fail
      refine nameAny (fun W => Box W w.heap.size #[.bool false, .bool false, .slice none 0 0, .int .i64 0, .int .i64 0, .int .i64 0, .int .i64 0] ∧ Box W rb #[.bool true, .bool (ex), (.slice (some ⟨g9, 0, none⟩) LN c9), .int .i64 en.n.m, .int .i64 en.dip, .int .i64 s.work, .int .i64 s.drops] ∧ W.ownsRow w.heap.size 5 1 (.slice (some ⟨g9, 0, none⟩) LN c9) LN (u8s (en.bs.take LN)) ∧ Below w.heap.size w W) ⟨b215.setOther (p := ⟨rb, 1, none⟩) (by show rb ≠ w.heap.size; omega) _, b315.setCell (i := 1) (.bool (ex)), ownsN_block own15 fun k hk => Below.heap_setCell _ _ _ _ (by rw [← Option.some.inj hk]; exact hgrb), B150.setCell (p := ⟨rb, 1, none⟩) hge _⟩ ?_
      clear c1 z1 h15 b215 b315 own15 B150
      rintro w16 ⟨b216, b316, own16, B160⟩
      have g16 := b316.load (off := 0) (n := 7) (cs' := #[.bool true, .bool (ex), (.slice (some ⟨g9, 0, none⟩) LN c9), .int .i64 en.n.m, .int .i64 en.dip, .int .i64 s.work, .int .i64 s.drops]) (Nat.le_refl _) rfl
      go_wp2_with (first | ((with_reducible apply ld); rfl; (with_reducible assumption); (simp only [List.set_cons_zero, List.set_cons_succ]; rfl)) | ((with_reducible apply stO); rfl; rfl; exact b216; rfl; rfl; exact flatR; intro w17 b17 B17 ho17 hs17))
      refine bodyPost_ret (results_cellAgg rfl rfl (b17.load (off := 0) (n := 7) (cs' := #[.bool true, .bool (ex), (.slice (some ⟨g9, 0, none⟩) LN c9), .int .i64 en.n.m, .int .i64 en.dip, .int .i64 s.work, .int .i64 s.drops]) (Nat.le_refl _) rfl)) rfl ?_
      rw [HR.out]
      refine (show ResPost _ _ _ _ from ⟨⟨some ⟨g9, 0, none⟩, c9, by show _ = Ending.returned (.agg #[.bool true, .bool _, .slice _ (en.bs.take LN).length _, _, _, _, _]); rw [HTL.out], ?_⟩, B160.trans B17⟩)
      show w17.ownsRow w.heap.size 5 1 (.slice (some ⟨g9, 0, none⟩) (en.bs.take LN).length c9) (en.bs.take LN).length (u8s (en.bs.take LN))
      rw [HTL.out]
      exact ownsN_block own16 fun k hk => ho17 k (by rw [← Option.some.inj hk]; exact Nat.ne_of_gt hg9w)
end Go.Proofs.Ytnjmplapjnnjdaa

/- The search of layer 17, the document's: Decode. -/
namespace Go.Proofs.Ytnjmplapjnnjdaa
open Go.RowKit
set_option linter.unusedSimpArgs false
set_option linter.unusedVariables false

theorem RqM.res {w : World} {p : Pb} (hp : p.Ok) (hc : probChk p = 0) {D : Int} (hD : 1 ≤ D) {most : Nat} {s : Bq} {sb : Nat} {F : Nat → Prop} (h : RqM w p D most s sb F) :
    Calls Try.prog 39 #[.pointer (some ⟨sb, 0, none⟩)] w (ResPost (p.bres D s) w) := by
  obtain ⟨es, fv, A, Ow, rfl, hR, hF⟩ := h.rq
  exact rq_Result hp hc hD h.ok hR
set_option maxRecDepth 5000 in
theorem rq_Decode (p : Pb) (a : Option Addr) (ca : Nat) (cap b D : Int) (hp : p.Ok) (w : World) (hw : Bytes w a p.B) :
    Calls Try.prog 13 #[.agg (p.cells (.slice a p.B.length ca)), .int .i64 cap, .int .i64 b, .int .i64 D] w (ResErr (p.seR cap b D) (p.seE cap b D) w) := by
  go_enter Try.func13, Try.ntmps13
  go_upto_region 1 with fail
  refine name2 ?_
  intro w0 b3 b6 B0
  have hw0 := hw.kept B0
  obtain ⟨fk, fr, flev, fl, fwin, fcode, ftable, fall⟩ := b3.prob hp
  clear fk fr flev fl fwin fcode ftable b3
  have flat0 : Flat #[.bool false, .bool false, .slice none 0 0, .int .i64 0, .int .i64 0, .int .i64 0, .int .i64 0] := flatR
  go_wp2_with ((with_reducible apply ld); rfl; (with_reducible assumption); (simp only [List.set_cons_zero, List.set_cons_succ]; rfl))
  refine (rq_New p a ca cap D hp _ hw0).mono ?_
  rintro e w1 ⟨hN, B1⟩
  have b61 := b6.kept B1
  have B10 := bOn B0 B1
  by_cases hz : newE p cap D = 0
  · rw [if_pos hz] at hN
    obtain ⟨sb, F, rfl, hM, hF⟩ := hN
    obtain ⟨hc, c1, c2, d1, d2, _⟩ := newE_zero hz
    have hF6 : ∀ k, F k → k ≠ w.heap.size + 1 := fun k hk => by have := hF k hk; have := b6.lt; omega
    have hFw : ∀ k, F k → w.heap.size ≤ k := fun k hk => Nat.le_trans B0.size (hF k hk)
    have hrun := hM.run hp hc d1 (by omega : 1 ≤ cap.toNat) (by omega) b
    have eR : p.seR cap b D = if b < 0 ∨ 1048576 < b then Rs.zero else p.bres D (p.brun D cap.toNat b.toNat (Bq.start D cap.toNat)) := by unfold Pb.seR; rw [if_neg (by simp [hz])]
    have eE : p.seE cap b D = if b < 0 ∨ 1048576 < b then 1 else 0 := by unfold Pb.seE; rw [if_neg (by simp [hz])]
    clear fall b6 hw0 hz
    unfold Pb.bRun Pb.bAns at hrun
    by_cases hb : b < 0 ∨ 1048576 < b
    · rw [if_pos hb] at eR eE
      rw [if_pos hb, if_pos hb] at hrun
      have E := Lib.hid (And.intro eR eE)
      clear eR eE hb
      go_wp2_with fail
      refine hrun.mono ?_
      rintro e w2 ⟨rfl, F2, hM2, T2, G2⟩
      have b62 := b61.turn T2 (fun hh => hF6 _ hh rfl)
      have B20 : Below w.heap.size w w2 := B10.trans (T2.below' B10.size fun k hk hh => hFw k hh)
      clear hrun b61
      go_wp2_with (first | ((with_reducible apply ld); rfl; (with_reducible assumption); (simp only [List.set_cons_zero, List.set_cons_succ]; rfl)) | ((with_reducible apply w_build (d := 31) (cs := #[.bool false, .bool false, .slice none 0 0, .int .i64 0, .int .i64 0, .int .i64 0, .int .i64 0])); ((simp only [List.map_toArray, List.map_cons, List.map_nil]); exact build_res0 _)) | ((with_reducible apply stO); rfl; rfl; exact b62; rfl; rfl; exact flat0; intro w3 b4 B3 ho3 hs3))
      refine bodyPost_ret (results_aggTmp rfl rfl rfl (b4.load (off := 0) (n := 7) (cs' := #[.bool false, .bool false, .slice none 0 0, .int .i64 0, .int .i64 0, .int .i64 0, .int .i64 0]) (Nat.le_refl _) rfl)) rfl ?_
      rw [E.out.1, E.out.2]; exact ResErr.zero rfl (B20.trans (B3.mono (by omega)))
    · rw [if_neg hb] at eR eE
      rw [if_neg hb, if_neg hb] at hrun
      have E := Lib.hid (And.intro eR eE)
      clear eR eE hb
      obtain ⟨sk, hsk⟩ : ∃ sk, sk = p.brun D cap.toNat b.toNat (Bq.start D cap.toNat) := ⟨_, rfl⟩
      rw [← hsk] at hrun E
      clear hsk
      go_wp2_with fail
      refine hrun.mono ?_
      rintro e w2 ⟨rfl, F2, hM2, T2, G2⟩
      have b62 := b61.turn T2 (fun hh => hF6 _ hh rfl)
      have B20 : Below w.heap.size w w2 := B10.trans (T2.below' B10.size fun k hk hh => hFw k hh)
      have hres := hM2.res hp hc d1
      clear hrun b61 T2 G2
      go_wp2_with fail
      refine hres.mono ?_
      rintro e w3 ⟨⟨ar, cr, rfl, hO⟩, B3⟩
      have b63 := b62.kept B3
      have B30 := bOn B20 B3
      have b62s := b62.lt
      clear hres b62 hM2
      have hfl : Flat ((p.bres D sk).cells (.slice ar (p.bres D sk).bits.length cr)) := flatR
      obtain ⟨R, hR⟩ : ∃ R, R = (p.bres D sk).cells (.slice ar (p.bres D sk).bits.length cr) := ⟨_, rfl⟩
      have hRs : R.size = 7 := by rw [hR]; rfl
      rw [← hR] at hfl ⊢
      have HR := Lib.hid hR
      have HRS := Lib.hid hRs
      clear hR hRs
      go_wp2_with (first | ((with_reducible apply ld); rfl; (with_reducible assumption); (simp only [List.set_cons_zero, List.set_cons_succ]; rfl)) | ((with_reducible apply stO); rfl; rfl; exact b63; rfl; exact HRS.out; exact hfl; intro w4 b4 B4 ho4 hs4))
      refine bodyPost_ret (results_aggTmp rfl rfl rfl (b4.load (off := 0) (n := 7) (cs' := R) (by rw [HRS.out]; exact Nat.le_refl _) (Array.extract_eq_self_of_le (by rw [HRS.out]; exact Nat.le_refl _)))) rfl ?_
      have B40 := B30.trans (B4.mono (by omega : w.heap.size ≤ w.heap.size + 1))
      rw [E.out.1, E.out.2]
      refine (show ResErr _ _ _ _ _ from ⟨⟨ar, cr, (by rw [HR.out]; rfl), ?_⟩, B40⟩)
      refine owns_base (ownsN_block hO fun k hk => ho4 k fun e => ?_) B20.size
      have := (World.ownsRow.lt hO k hk).1
      have := b62s
      omega
  · rw [if_neg hz] at hN
    subst hN
    have eR : p.seR cap b D = Rs.zero := by unfold Pb.seR; rw [if_pos hz]
    have eE : p.seE cap b D = newE p cap D := by unfold Pb.seE; rw [if_pos hz]
    have E := Lib.hid (And.intro eR eE)
    have hz2 : (newE p cap D != 0) = true := by simp [hz]
    clear fall b6 hw0 hz eR eE
    go_wp2_with (first | ((with_reducible apply ld); rfl; (with_reducible assumption); (simp only [List.set_cons_zero, List.set_cons_succ]; rfl)) | ((with_reducible apply w_build (d := 21) (cs := #[.bool false, .bool false, .slice none 0 0, .int .i64 0, .int .i64 0, .int .i64 0, .int .i64 0])); ((simp only [List.map_toArray, List.map_cons, List.map_nil]); exact build_res0 _)) | ((with_reducible apply stO); rfl; rfl; exact b61; rfl; rfl; exact flat0; intro w2 b4 B2 ho3 hs3))
    refine bodyPost_ret (results_aggTmp rfl rfl rfl (b4.load (off := 0) (n := 7) (cs' := #[.bool false, .bool false, .slice none 0 0, .int .i64 0, .int .i64 0, .int .i64 0, .int .i64 0]) (Nat.le_refl _) rfl)) rfl ?_
    rw [E.out.1, E.out.2]; exact ResErr.zero rfl (B10.trans (B2.mono (by omega)))
end Go.Proofs.Ytnjmplapjnnjdaa

/- outpostlaw17.BucketdecDecodes: every Decode. -/
namespace Go.Proofs.Ytnjmplapjnnjdaa
open Go.RowKit
set_option linter.unusedSimpArgs false
set_option linter.unusedVariables false

theorem ldGR {P : Program} {ops : Array Oper} {rest : List Oper} {l l' : List Value} {ds : List Deferred} {w : World} {Q : Exit → Act → World → Prop} {t n b off d : Nat} {x : Operand} {v : Value} {ty : TypeId} {ps : String} {af : Array Edge} {gd : Option (Nat × Bool)}
    (hw : Region.wanted ⟨some d, .load t x, ty, ps, af, gd⟩ (yielded ops l.toArray) = true) (hx : (Act.mk l.toArray ds).eval x = .pointer (some ⟨b, off, none⟩)) [T : AggTy P t n] (hl : loadAgg w b off n = .ok v w) (hs : l.set d v = l') (h : wpList P ops Q rest ⟨l'.toArray, ds⟩ w) :
    wpList P ops Q (⟨some d, .load t x, ty, ps, af, gd⟩ :: rest) ⟨l.toArray, ds⟩ w := by
  obtain ⟨d, h1, h2, h3⟩ := T.out
  refine BigFrame.wpList_want hw fun K hK => ?_
  unfold Oper.wp execOp
  have := run_loadVar_agg (P := P) (w := w) (b := b) (off := off) h1 h2 h3 (by rw [hl]; rfl)
  simp only [hx, Instr.loadAt, Instr.sureAddr, Sem.run_bind, Sem.run_pure, Result.andThen_ok, this, hl]
  rw [Oper.upon_value, put_list, hs]
  exact hK _ _ h
theorem res_bytesR {r : Rs} {w : World} {B c : Nat} {a : Option Addr} (ho : w.ownsRow B 5 1 (.slice a r.bits.length c) r.bits.length (u8s r.bits)) (hl : ∀ x ∈ r.bits, x < 256) : Bytes w a r.bits := by
  rcases ho.2 with ⟨e, h0⟩ | ⟨g', c', cur, e, _⟩
  · rw [List.length_eq_zero_iff.1 h0]; exact Bytes.nil _ _
  · obtain ⟨rfl, _⟩ : a = some ⟨g', 0, none⟩ ∧ c = c' := by simpa using e
    exact own_bytes ho hl
set_option maxRecDepth 5000 in
set_option maxHeartbeats 1000000 in
theorem law17_Decodes (p : Pb) (a : Option Addr) (ca : Nat) (hp : p.Ok) (hB : p.B.length ≤ 140737488351232) (cap : Int) (c0 : -9223372036854775808 ≤ cap) (c1 : cap ≤ 9223372036854775807) (b : Int) (b0 : -9223372036854775808 ≤ b) (b1 : b ≤ 9223372036854775807) (D : Int) (D0 : -9223372036854775808 ≤ D) (D1 : D ≤ 9223372036854775807) (w : World) (hw : Bytes w a p.B) :
    Pure Try.prog 3 #[.agg (p.cells (.slice a p.B.length ca)), .int .i64 cap, .int .i64 b, .int .i64 D] w (.bool true) := by
  obtain ⟨r, hr⟩ : ∃ r, r = p.seR cap b D := ⟨_, rfl⟩
  obtain ⟨E, hE⟩ : ∃ E, E = p.seE cap b D := ⟨_, rfl⟩
  have d1 := fun (a : Option Addr) ca W (hW : Bytes W a p.B) => se_Decode p a ca cap b D hp W hW
  have d2 := fun (a : Option Addr) ca W (hW : Bytes W a p.B) => rq_Decode p a ca cap b D hp W hW
  rw [← hr, ← hE] at d1 d2
  have HD := Lib.hid (And.intro d1 d2)
  clear d1 d2 hr hE
  go_enter Try.func3, Try.ntmps3
  go_upto_region 1 with fail
  refine name1 ?_
  intro w0 bp B0
  have hw0 := hw.kept B0
  obtain ⟨fk, fr, flev, fl, fwin, fcode, ftable, fall⟩ := bp.prob hp
  clear fk fr flev fl fwin fcode ftable
  go_wp2_with ((with_reducible apply ld); rfl; (with_reducible assumption); (simp only [List.set_cons_zero, List.set_cons_succ]; rfl))
  refine (law01_Problem p a ca hp hB _ hw0).mono ?_
  rintro e w1 ⟨v, rfl, hv, B1⟩
  obtain ⟨g, c, rfl, hc, hgb, hgB, _⟩ := hv.open hp.b
  have hb5 := Box.new w1 zero32 32
  have hf := hp.flat (v := .slice (some ⟨g, 0, none⟩) p.B.length c) ⟨fun _ h => (by cases h), fun _ h => (by cases h)⟩
  have hs40 := hp.size (.slice (some ⟨g, 0, none⟩) p.B.length c)
  clear fall
  go_upto_region 2 with (first | ((with_reducible apply stO); rfl; rfl; exact hb5; rfl; exact hs40; exact hf; intro w2 b5 B2 ho2 hs2))
  have B21 : Below w1.heap.size w1 w2 := ((Below.refl _ w1).alloc (Nat.le_refl _) _).trans B2
  have B20 := bOn (bOn B0 B1) B21
  have hv2 := hv.below B21 (Nat.le_refl _)
  have hg2 := hgb.kept B21
  have bp2 := (bp.kept B1).kept B21
  have hw2 := hw.kept B20
  clear ho2 hs2 hb5 B2 hgb hf hs40 hv bp hw0 B0 B1 B21
  obtain ⟨fk, fr, flev, fl, fwin, fcode, ftable, fall⟩ := b5.prob hp
  clear fk fr flev fl fwin fcode ftable
  go_wp2_with ((with_reducible apply ld); rfl; (with_reducible assumption); (simp only [List.set_cons_zero, List.set_cons_succ]; rfl))
  refine (HD.out.1 (some ⟨g, 0, none⟩) c w2 hg2).mono ?_
  rintro e w3 ⟨⟨a3, e3, rfl, hO3⟩, B3⟩
  clear fall
  obtain ⟨R, hR⟩ : ∃ R, R = r.cells (.slice a3 r.bits.length e3) := ⟨_, rfl⟩
  have hRs : R.size = 7 := by rw [hR]; rfl
  have hfl : Flat R := by rw [hR]; exact flatR
  rw [← hR]
  have HRS := Lib.hid hRs
  have HR := Lib.hid hR
  have bn := Box.new w3 #[.bool false, .bool false, .slice none 0 0, .int .i64 0, .int .i64 0, .int .i64 0, .int .i64 0] 35
  clear hRs hR
  go_upto_region 3 with (first | ((with_reducible apply ld); rfl; (with_reducible assumption); (simp only [List.set_cons_zero, List.set_cons_succ]; rfl)) | ((with_reducible apply stO); rfl; rfl; exact bn; rfl; exact HRS.out; exact hfl; intro w4 x4 B4 ho4 hs4))
  have B43 : Below w3.heap.size w3 w4 := ((Below.refl _ w3).alloc (Nat.le_refl _) _).trans B4
  have B42 := bOn B3 B43
  have B40 := bOn B20 B42
  have hv4 := hv2.below B42 (Nat.le_of_eq rfl)
  have bp4 := bp2.kept B42
  have b54 := b5.kept B42
  have hw4 := hw.kept B40
  have hO4 := hO3.kept (w' := w4) fun k hk hl => B43.block k hl
  have hby4 := hO4.bytes
  clear bn ho4 hs4 B4 hfl hO3 hO4 hv2 bp2 b5 hw2 hg2 B20 B42 B43 B3
  obtain ⟨fk, fr, flev, fl, fwin, fcode, ftable, fall⟩ := bp4.prob hp
  clear fk fr flev fl fwin fcode ftable
  go_wp2_with ((with_reducible apply ld); rfl; (with_reducible assumption); (simp only [List.set_cons_zero, List.set_cons_succ]; rfl))
  refine (HD.out.2 a ca w4 hw4).mono ?_
  rintro e w5 ⟨⟨a5, e5, rfl, hO5⟩, B5⟩
  clear fall
  obtain ⟨R2, hR2⟩ : ∃ R, R = r.cells (.slice a5 r.bits.length e5) := ⟨_, rfl⟩
  have hRs : R2.size = 7 := by rw [hR2]; rfl
  have hfl : Flat R2 := by rw [hR2]; exact flatR
  rw [← hR2]
  have HRS2 := Lib.hid hRs
  have HR2 := Lib.hid hR2
  have bn := Box.new w5 #[.bool false, .bool false, .slice none 0 0, .int .i64 0, .int .i64 0, .int .i64 0, .int .i64 0] 35
  clear hRs hR2
  go_upto_region 4 with (first | ((with_reducible apply ld); rfl; (with_reducible assumption); (simp only [List.set_cons_zero, List.set_cons_succ]; rfl)) | ((with_reducible apply stO); rfl; rfl; exact bn; rfl; exact HRS2.out; exact hfl; intro w6 x6 B6 ho6 hs6))
  have B65 : Below w5.heap.size w5 w6 := ((Below.refl _ w5).alloc (Nat.le_refl _) _).trans B6
  have B64 := bOn B5 B65
  have B60 := bOn B40 B64
  have hv6 := hv4.below B64 (by have := B40.size; omega)
  have bp6 := bp4.kept B64
  have b56 := b54.kept B64
  have x46 := x4.kept B64
  have hby46 := hby4.kept B64
  have hw6 := hw.kept B60
  have hby5 : Bytes w5 a5 r.bits := res_bytesR hO5 hby4.lt
  have hby6 := hby5.kept B65
  clear bn ho6 hs6 B6 hfl hO5 hv4 bp4 b54 hw4 B40 B64 B65 B5 x4 hby4 hby5
  have g1 := x46.load (off := 0) (n := 7) (cs' := R) (by rw [HRS.out]; exact Nat.le_refl _) (Array.extract_eq_self_of_le (by rw [HRS.out]; exact Nat.le_refl _))
  have g2 := x6.load (off := 0) (n := 7) (cs' := R2) (by rw [HRS2.out]; exact Nat.le_refl _) (Array.extract_eq_self_of_le (by rw [HRS2.out]; exact Nat.le_refl _))
  have hsame := fun W (hW : Ext w6 W) => law01_SameResults r a3 a5 e3 e5 W (hby46.kept hW) (hby6.kept hW)
  rw [← HR.out, ← HR2.out] at hsame
  have HSM := Lib.hid hsame
  clear hsame
  go_wp2_with fail
  refine (law17_num E w6).mono ?_
  rintro e w7 ⟨rfl, B7⟩
  have g17 : loadAgg w7 w3.heap.size 0 7 = .ok (.agg R) w7 := (x46.kept B7).load (off := 0) (n := 7) (by rw [HRS.out]; exact Nat.le_refl _) (Array.extract_eq_self_of_le (by rw [HRS.out]; exact Nat.le_refl _))
  have g27 : loadAgg w7 w5.heap.size 0 7 = .ok (.agg R2) w7 := (x6.kept B7).load (off := 0) (n := 7) (by rw [HRS2.out]; exact Nat.le_refl _) (Array.extract_eq_self_of_le (by rw [HRS2.out]; exact Nat.le_refl _))
  clear g1 g2
  go_wp2_with ((with_reducible apply ldGR); rfl; rfl; (with_reducible assumption); (simp only [List.set_cons_zero, List.set_cons_succ]; rfl))
  refine (HSM.out w7 B7).mono ?_
  rintro e w8 ⟨rfl, B8⟩
  have B86 := bOn B7 B8
  have c39 : w8.cell? ⟨w1.heap.size, 39, none⟩ = some (.slice (some ⟨g, 0, none⟩) p.B.length c) := ((b56.kept B86).cell 39).trans (hp.cell39 _)
  have d39 : w8.cell? ⟨w.heap.size, 39, none⟩ = some (.slice a p.B.length ca) := ((bp6.kept B86).cell 39).trans (hp.cell39 _)
  have hv8 := hv6.below B86 (by have := B60.size; omega)
  have hw8 := hw6.kept B86
  have B80 := bOn B60 B86
  clear g17 g27
  go_wp2_with fail
  refine (law01_Stays a p.B ca hB _ _ w8 hw8 hv8).mono ?_
  rintro e w9 ⟨rfl, B9⟩
  go_wp2_with fail
  refine (law17_knows w9).mono ?_
  rintro e w10 ⟨rfl, B10⟩
  go_wp2
  go_ret
  exact ⟨rfl, bOn (bOn B80 B9) B10⟩
end Go.Proofs.Ytnjmplapjnnjdaa
