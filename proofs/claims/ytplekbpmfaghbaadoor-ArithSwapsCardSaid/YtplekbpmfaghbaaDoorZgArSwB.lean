/- ArithSwaps: what it leans on (for trim.py: the names below are kept). -/
import Derived.Test.YtplekbpmfaghbaaDoorZg11
import Derived.Test.YtplekbpmfaghbaaDoorZg21
import Derived.Test.YtplekbpmfaghbaaDoorZg22
namespace Go.Proofs.YtplekbpmfaghbaaDoor
open Go.RowKit
-- evalTop_any evalT TermErr ofw_any holds_any alive13_any num_any is_any ParW parW_of_laidP laidP own laidWorldP laidWorldP_met laidOut shut_bool u_bool open_int' evalS_two evalS_leaf rightE_two rightE_leaf rightT opE beq_self run_eql_value RetBE RetBool of_block cell_of_row frozen_of_row heapNew heapOld facts6 facts3 facts2 frz3 set_zero row_set set_out own_below own_out' below_next belowA bcell setCell mono' keep exp_at numV opN ofW ofW_ok holdsS cmpS rightB rightB_num rightB_ok errV MapV EnvIs drewBelow facts17 trodAll_mk1 trodAll_mk0 trodAll_cons_mk trod frame kidsE zT PushT World
end Go.Proofs.YtplekbpmfaghbaaDoor
