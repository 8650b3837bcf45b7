/-
  The rules of the walks, bundled (one name for simp).
-/
import Derived.Test.YtbhgncfbljkdgaaA34
namespace Go.Proofs.Ytbhgncfbljkdgaa.AI
open Go
set_option linter.defProp false

def W0 :=
  And.intro @iw_seq (And.intro @iw_region (And.intro @iw_cond (And.intro @iw_skip (And.intro @iw_exit (And.intro @iw_ret (And.intro @iw_block (And.intro @iw_keep (And.intro @iw_scope (And.intro @thenQ_normal (And.intro @thenQ_exit (And.intro @thenQ_ret (And.intro @blockQ_normal (And.intro @blockQ_exit (And.intro @blockQ_ret (And.intro @condQ_true (And.intro @condQ_false (And.intro @iwo_seq (And.intro @iwo_nil (And.intro @iwo_guard (And.intro @iwo_rd0 (And.intro @iwo_still (And.intro @iwo_mk (And.intro @iwo_ro0 (@relo_get))))))))))))))))))))))))

def W1 :=
  And.intro @relo_lo (And.intro @relo_back (And.intro @relo_relo (And.intro @guardV_at (And.intro @guardG_bool (And.intro @guardG_undef (And.intro @guardQ'_true (And.intro @guardQ'_false (And.intro @ev_tmp (And.intro @ev_const (And.intro @ev_fn (And.intro @evs_nil (And.intro @evs_cons (And.intro @consO_some (And.intro @get_cons (And.intro @put_some (And.intro @put_none (And.intro @WPv_some (And.intro @x_move (And.intro @x_load (And.intro @x_bin (And.intro @x_pick (And.intro @x_box (And.intro @x_alloc (@x_store))))))))))))))))))))))))

def W2 :=
  And.intro @x_un (And.intro @x_fieldAddr (And.intro @x_field (And.intro @x_indexAddr (And.intro @x_extract (And.intro @x_len (And.intro @x_makeFunc (And.intro @x_buildSlice (And.intro @x_eqFlat (And.intro @x_nilEq (And.intro @x_convInt (And.intro @o_call (And.intro @callO_some (And.intro @o_callv (And.intro @callvO_some (And.intro @o_move (And.intro @moveO_some (And.intro @o_load (And.intro @loadO_ptr (And.intro @loadC_list (And.intro @o_bin (And.intro @bin_add (And.intro @bin_sub (And.intro @bin_mul (@bin_lss))))))))))))))))))))))))

def W3 :=
  And.intro @bin_leq (And.intro @bin_gtr (And.intro @bin_geq (And.intro @bin_eql (And.intro @bin_neq (And.intro @o_un (And.intro @un_not (And.intro @o_pick (And.intro @pickO_true (And.intro @pickO_false (And.intro @pickO_bool (And.intro @o_box (And.intro @box_some (And.intro @o_alloc (And.intro @o_fieldAddr (And.intro @fieldAddrO_ptr (And.intro @o_field (And.intro @fieldO_list (And.intro @o_indexAddr (And.intro @o_store (And.intro @storeO_ptr (And.intro @store_cells (And.intro @cellsL_agg (And.intro @cellsL_int (@cellsL_bool))))))))))))))))))))))))

def W4 :=
  And.intro @cellsL_ptr (And.intro @cellsL_slice (And.intro @cellsL_func (And.intro @o_extract (And.intro @extractO_tuple (And.intro @o_len (And.intro @lenO_sl (And.intro @lenO_arr (And.intro @bin_rem (And.intro @bin_quo (And.intro @o_makeFunc (And.intro @makeFuncO_some (And.intro @o_buildSlice (And.intro @bs_int1 (And.intro @bs_int2 (And.intro @bs_agg3 (And.intro @x_build (And.intro @o_build (And.intro @b_int3 (And.intro @b_int2 (And.intro @callV_func (And.intro @o_eqFlat (And.intro @eqFlat_int3 (And.intro @o_convInt (@convIntO_some))))))))))))))))))))))))

def W5 :=
  And.intro @evParts_nil (And.intro @evParts_cons (And.intro @consP_some (And.intro @partOf_none (And.intro @partOf_some (And.intro @takeMarks_nil (And.intro @ressOf_nil (And.intro @ressOf_cons (And.intro @resOf_tmp (And.intro @resOf_cell (And.intro @cellR_ptr (And.intro @cellP_cells (And.intro @tuple_one (And.intro @tuple_two (And.intro @scalar_int (And.intro @scalar_bool (And.intro @scalar_ptr (And.intro @scalar_slice (And.intro @put_nil (And.intro @put_cons (And.intro @Heap.get_new (And.intro @Heap.get_set (And.intro @nl1 (And.intro @nl2 (@nl3))))))))))))))))))))))))

def W6 :=
  And.intro @nl4 (And.intro @nl5 (And.intro @nl6 (And.intro @nl7 (And.intro @nl8 (And.intro @nl9 (And.intro @nl10 (And.intro @nl11 (And.intro @nl12 (And.intro @nr1 (And.intro @nr2 (And.intro @nr3 (And.intro @nr4 (And.intro @nr5 (And.intro @nr6 (And.intro @nr7 (And.intro @nr8 (And.intro @nr9 (And.intro @nr10 (And.intro @nr11 (And.intro @nr12 (And.intro @beq_self_t (And.intro @beq_tf (And.intro @beq_ft (@beq_ff))))))))))))))))))))))))

end Go.Proofs.Ytbhgncfbljkdgaa.AI
